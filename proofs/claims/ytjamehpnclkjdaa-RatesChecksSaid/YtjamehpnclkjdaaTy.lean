/- What the types of the program say, as numbers: facts by the kernel. It bears no statement of its own. -/
import Derived.Test.YtjamehpnclkjdaaProg
import Derived.Test.YtjamehpnclkjdaaLm
import Derived.KernelRfl
namespace Go.Proofs.Ytjamehpnclkjdaa
open Go Go.Ls
theorem mixed : Try.prog.follows .mixedOrders = true := by kernel_rfl
@[simp] theorem ty_agg3 : aggOf Try.prog 3 = some none := by kernel_rfl
@[simp] theorem ty_agg22 : aggOf Try.prog 22 = some none := by kernel_rfl
@[simp] theorem ty_agg25 : aggOf Try.prog 25 = some none := by kernel_rfl
@[simp] theorem ty_agg34 : aggOf Try.prog 34 = some (some 3) := by kernel_rfl
@[simp] theorem ty_agg37 : aggOf Try.prog 37 = some (some 6) := by kernel_rfl
@[simp] theorem ty_agg38 : aggOf Try.prog 38 = some none := by kernel_rfl
@[simp] theorem ty_agg43 : aggOf Try.prog 43 = some (some 5) := by kernel_rfl
@[simp] theorem ty_agg52 : aggOf Try.prog 52 = some none := by kernel_rfl
@[simp] theorem ty_agg56 : aggOf Try.prog 56 = some (some 2) := by kernel_rfl
@[simp] theorem ty_agg61 : aggOf Try.prog 61 = some none := by kernel_rfl
@[simp] theorem ty_agg63 : aggOf Try.prog 63 = some (some 7) := by kernel_rfl
@[simp] theorem ty_agg65 : aggOf Try.prog 65 = some (some 2) := by kernel_rfl
@[simp] theorem ty_agg74 : aggOf Try.prog 74 = some (some 2) := by kernel_rfl
@[simp] theorem ty_agg87 : aggOf Try.prog 87 = some (some 4) := by kernel_rfl
@[simp] theorem ty_arr74 : arrOf Try.prog 74 = some (2, 1) := by kernel_rfl
@[simp] theorem ty_arr81 : arrOf Try.prog 81 = some (4, 1) := by kernel_rfl
@[simp] theorem ty_arr89 : arrOf Try.prog 89 = some (4, 1) := by kernel_rfl
@[simp] theorem ty_elem22 : elOf Try.prog 22 = some 1 := by kernel_rfl
@[simp] theorem ty_elem25 : elOf Try.prog 25 = some 7 := by kernel_rfl
@[simp] theorem ty_elem28 : elOf Try.prog 28 = some 3 := by kernel_rfl
@[simp] theorem ty_elem38 : elOf Try.prog 38 = some 5 := by kernel_rfl
@[simp] theorem ty_elem44 : elOf Try.prog 44 = some 6 := by kernel_rfl
@[simp] theorem ty_elem46 : elOf Try.prog 46 = some 1 := by kernel_rfl
@[simp] theorem ty_elem52 : elOf Try.prog 52 = some 2 := by kernel_rfl
@[simp] theorem ty_elem57 : elOf Try.prog 57 = some 1 := by kernel_rfl
@[simp] theorem ty_elem61 : elOf Try.prog 61 = some 2 := by kernel_rfl
@[simp] theorem ty_elem74 : elOf Try.prog 74 = none := by kernel_rfl
@[simp] theorem ty_elem75 : elOf Try.prog 75 = some 2 := by kernel_rfl
@[simp] theorem ty_elem79 : elOf Try.prog 79 = some 1 := by kernel_rfl
@[simp] theorem ty_elem81 : elOf Try.prog 81 = none := by kernel_rfl
@[simp] theorem ty_elem84 : elOf Try.prog 84 = some 4 := by kernel_rfl
@[simp] theorem ty_elem89 : elOf Try.prog 89 = none := by kernel_rfl
@[simp] theorem ty_eq56 : eqTy Try.prog 56 = some [true, true] := by kernel_rfl
@[simp] theorem ty_field34_0 : fieldOf Try.prog 34 0 = some 0 := by kernel_rfl
@[simp] theorem ty_field34_1 : fieldOf Try.prog 34 1 = some 1 := by kernel_rfl
@[simp] theorem ty_field37_0 : fieldOf Try.prog 37 0 = some 0 := by kernel_rfl
@[simp] theorem ty_field37_1 : fieldOf Try.prog 37 1 = some 1 := by kernel_rfl
@[simp] theorem ty_field37_2 : fieldOf Try.prog 37 2 = some 2 := by kernel_rfl
@[simp] theorem ty_field37_3 : fieldOf Try.prog 37 3 = some 3 := by kernel_rfl
@[simp] theorem ty_field37_4 : fieldOf Try.prog 37 4 = some 4 := by kernel_rfl
@[simp] theorem ty_field37_5 : fieldOf Try.prog 37 5 = some 5 := by kernel_rfl
@[simp] theorem ty_field43_0 : fieldOf Try.prog 43 0 = some 0 := by kernel_rfl
@[simp] theorem ty_field43_1 : fieldOf Try.prog 43 1 = some 1 := by kernel_rfl
@[simp] theorem ty_field43_2 : fieldOf Try.prog 43 2 = some 2 := by kernel_rfl
@[simp] theorem ty_field43_3 : fieldOf Try.prog 43 3 = some 3 := by kernel_rfl
@[simp] theorem ty_field43_4 : fieldOf Try.prog 43 4 = some 4 := by kernel_rfl
@[simp] theorem ty_field56_0 : fieldOf Try.prog 56 0 = some 0 := by kernel_rfl
@[simp] theorem ty_field56_1 : fieldOf Try.prog 56 1 = some 1 := by kernel_rfl
@[simp] theorem ty_field63_0 : fieldOf Try.prog 63 0 = some 0 := by kernel_rfl
@[simp] theorem ty_field63_1 : fieldOf Try.prog 63 1 = some 1 := by kernel_rfl
@[simp] theorem ty_field63_2 : fieldOf Try.prog 63 2 = some 2 := by kernel_rfl
@[simp] theorem ty_field63_3 : fieldOf Try.prog 63 3 = some 3 := by kernel_rfl
@[simp] theorem ty_field63_4 : fieldOf Try.prog 63 4 = some 4 := by kernel_rfl
@[simp] theorem ty_field63_5 : fieldOf Try.prog 63 5 = some 5 := by kernel_rfl
@[simp] theorem ty_field63_6 : fieldOf Try.prog 63 6 = some 6 := by kernel_rfl
@[simp] theorem ty_field65_0 : fieldOf Try.prog 65 0 = some 0 := by kernel_rfl
@[simp] theorem ty_field65_1 : fieldOf Try.prog 65 1 = some 1 := by kernel_rfl
@[simp] theorem ty_field78_0 : fieldOf Try.prog 78 0 = some 0 := by kernel_rfl
@[simp] theorem ty_field78_1 : fieldOf Try.prog 78 1 = some 1 := by kernel_rfl
@[simp] theorem ty_field87_0 : fieldOf Try.prog 87 0 = some 0 := by kernel_rfl
@[simp] theorem ty_field87_1 : fieldOf Try.prog 87 1 = some 1 := by kernel_rfl
@[simp] theorem ty_field87_2 : fieldOf Try.prog 87 2 = some 2 := by kernel_rfl
@[simp] theorem ty_field87_3 : fieldOf Try.prog 87 3 = some 3 := by kernel_rfl
@[simp] theorem ty_places34 : placesOf Try.prog 34 = some [(0, 1), (1, 1), (2, 1)] := by kernel_rfl
@[simp] theorem ty_places37 : placesOf Try.prog 37 = some [(0, 1), (1, 1), (2, 1), (3, 1), (4, 1), (5, 1)] := by kernel_rfl
@[simp] theorem ty_places43 : placesOf Try.prog 43 = some [(0, 1), (1, 1), (2, 1), (3, 1), (4, 1)] := by kernel_rfl
@[simp] theorem ty_places56 : placesOf Try.prog 56 = some [(0, 1), (1, 1)] := by kernel_rfl
@[simp] theorem ty_places63 : placesOf Try.prog 63 = some [(0, 1), (1, 1), (2, 1), (3, 1), (4, 1), (5, 1), (6, 1)] := by kernel_rfl
@[simp] theorem ty_places65 : placesOf Try.prog 65 = some [(0, 1), (1, 1)] := by kernel_rfl
@[simp] theorem ty_places81 : placesOf Try.prog 81 = some [(0, 1), (1, 1), (2, 1), (3, 1)] := by kernel_rfl
@[simp] theorem ty_places89 : placesOf Try.prog 89 = some [(0, 1), (1, 1), (2, 1), (3, 1)] := by kernel_rfl
@[simp] theorem ty_places74 : placesOf Try.prog 74 = some [(0, 1), (1, 1)] := by kernel_rfl
@[simp] theorem ty_places78 : placesOf Try.prog 78 = some [(0, 1), (1, 1)] := by kernel_rfl
@[simp] theorem ty_places87 : placesOf Try.prog 87 = some [(0, 1), (1, 1), (2, 1), (3, 1)] := by kernel_rfl
@[simp] theorem ty_size3 : sizeIs Try.prog 3 = some 1 := by kernel_rfl
@[simp] theorem ty_size4 : sizeIs Try.prog 4 = some 1 := by kernel_rfl
@[simp] theorem ty_size22 : sizeIs Try.prog 22 = some 1 := by kernel_rfl
@[simp] theorem ty_size25 : sizeIs Try.prog 25 = some 1 := by kernel_rfl
@[simp] theorem ty_size34 : sizeIs Try.prog 34 = some 3 := by kernel_rfl
@[simp] theorem ty_size37 : sizeIs Try.prog 37 = some 6 := by kernel_rfl
@[simp] theorem ty_size43 : sizeIs Try.prog 43 = some 5 := by kernel_rfl
@[simp] theorem ty_size56 : sizeIs Try.prog 56 = some 2 := by kernel_rfl
@[simp] theorem ty_size61 : sizeIs Try.prog 61 = some 1 := by kernel_rfl
@[simp] theorem ty_size63 : sizeIs Try.prog 63 = some 7 := by kernel_rfl
@[simp] theorem ty_size65 : sizeIs Try.prog 65 = some 2 := by kernel_rfl
@[simp] theorem ty_size74 : sizeIs Try.prog 74 = some 2 := by kernel_rfl
@[simp] theorem ty_size81 : sizeIs Try.prog 81 = some 4 := by kernel_rfl
@[simp] theorem ty_size87 : sizeIs Try.prog 87 = some 4 := by kernel_rfl
@[simp] theorem ty_size89 : sizeIs Try.prog 89 = some 4 := by kernel_rfl
@[simp] theorem ty_sl22 : slTy Try.prog 22 = some (.val (.int .i64 0), 1, 8) := by kernel_rfl
@[simp] theorem ty_sl25 : slTy Try.prog 25 = some (.agg [.val (.int .i64 0), .val (.int .i64 0), .val (.int .i64 0), .val (.int .i64 0), .val (.int .i64 0), .val (.slice none 0 0), .val (.int .i64 0)], 7, 72) := by kernel_rfl
@[simp] theorem ty_sl28 : slTy Try.prog 28 = some (.agg [.val (.int .i64 0), .val (.int .i64 0), .val (.slice none 0 0)], 3, 40) := by kernel_rfl
@[simp] theorem ty_sl38 : slTy Try.prog 38 = some (.agg [.val (.int .i64 0), .val (.int .i64 0), .val (.bool false), .val (.int .i64 0), .val (.int .i64 0)], 5, 40) := by kernel_rfl
@[simp] theorem ty_sl44 : slTy Try.prog 44 = some (.agg [.val (.int .i64 0), .val (.int .i64 0), .val (.int .i64 0), .val (.int .i64 0), .val (.int .i64 0), .val (.int .i64 0)], 6, 48) := by kernel_rfl
@[simp] theorem ty_sl46 : slTy Try.prog 46 = some (.val (.slice none 0 0), 1, 24) := by kernel_rfl
@[simp] theorem ty_sl52 : slTy Try.prog 52 = some (.agg [.val (.int .i64 0), .val (.int .i64 0)], 2, 16) := by kernel_rfl
@[simp] theorem ty_sl57 : slTy Try.prog 57 = some (.val (.slice none 0 0), 1, 24) := by kernel_rfl
@[simp] theorem ty_sl61 : slTy Try.prog 61 = some (.agg [.val (.int .i64 0), .val (.int .i64 0)], 2, 16) := by kernel_rfl
@[simp] theorem ty_sl75 : slTy Try.prog 75 = some (.agg [.val (.int .i64 0), .val (.int .i64 0)], 2, 16) := by kernel_rfl
@[simp] theorem ty_sl79 : slTy Try.prog 79 = some (.val (.slice none 0 0), 1, 24) := by kernel_rfl
@[simp] theorem ty_sl84 : slTy Try.prog 84 = some (.agg [.val (.int .i64 0), .val (.int .i64 0), .val (.int .i64 0), .val (.int .i64 0)], 4, 32) := by kernel_rfl
@[simp] theorem ty_und3 : Try.prog.underlying 3 = some (.int .i64) := by kernel_rfl
@[simp] theorem ty_und4 : Try.prog.underlying 4 = some .bool := by kernel_rfl
@[simp] theorem ty_und5 : Try.prog.underlying 5 = some (.int .u8) := by kernel_rfl
@[simp] theorem ty_und30 : Try.prog.underlying 30 = some (.int .i64) := by kernel_rfl
@[simp] theorem ty_zero25 : zeroEl Try.prog 25 = some (.val (.slice none 0 0)) := by kernel_rfl
@[simp] theorem ty_zero34 : zeroEl Try.prog 34 = some (.agg [.val (.int .i64 0), .val (.int .i64 0), .val (.slice none 0 0)]) := by kernel_rfl
@[simp] theorem ty_zero37 : zeroEl Try.prog 37 = some (.agg [.val (.int .i64 0), .val (.int .i64 0), .val (.int .i64 0), .val (.int .i64 0), .val (.int .i64 0), .val (.int .i64 0)]) := by kernel_rfl
@[simp] theorem ty_zero43 : zeroEl Try.prog 43 = some (.agg [.val (.int .i64 0), .val (.int .i64 0), .val (.bool false), .val (.int .i64 0), .val (.int .i64 0)]) := by kernel_rfl
@[simp] theorem ty_zero56 : zeroEl Try.prog 56 = some (.agg [.val (.int .i64 0), .val (.int .i64 0)]) := by kernel_rfl
@[simp] theorem ty_zero63 : zeroEl Try.prog 63 = some (.agg [.val (.int .i64 0), .val (.int .i64 0), .val (.int .i64 0), .val (.int .i64 0), .val (.int .i64 0), .val (.slice none 0 0), .val (.int .i64 0)]) := by kernel_rfl
@[simp] theorem ty_zero65 : zeroEl Try.prog 65 = some (.agg [.val (.int .i64 0), .val (.int .i64 0)]) := by kernel_rfl
@[simp] theorem ty_zero74 : zeroEl Try.prog 74 = some (.agg [.val (.int .i64 0), .val (.int .i64 0)]) := by kernel_rfl
@[simp] theorem ty_zero81 : zeroEl Try.prog 81 = some (.agg [.val (.int .i64 0), .val (.int .i64 0), .val (.int .i64 0), .val (.int .i64 0)]) := by kernel_rfl
@[simp] theorem ty_zero87 : zeroEl Try.prog 87 = some (.agg [.val (.int .i64 0), .val (.int .i64 0), .val (.int .i64 0), .val (.int .i64 0)]) := by kernel_rfl
@[simp] theorem ty_zero89 : zeroEl Try.prog 89 = some (.agg [.val (.slice none 0 0), .val (.slice none 0 0), .val (.slice none 0 0), .val (.slice none 0 0)]) := by kernel_rfl
@[simp] theorem ty_zeroOf34 : zeroOf Try.prog 34 = some [.int .i64 0, .int .i64 0, .slice none 0 0] := by kernel_rfl
@[simp] theorem ty_zeroOf37 : zeroOf Try.prog 37 = some [.int .i64 0, .int .i64 0, .int .i64 0, .int .i64 0, .int .i64 0, .int .i64 0] := by kernel_rfl
@[simp] theorem ty_zeroOf43 : zeroOf Try.prog 43 = some [.int .i64 0, .int .i64 0, .bool false, .int .i64 0, .int .i64 0] := by kernel_rfl
@[simp] theorem ty_zeroOf56 : zeroOf Try.prog 56 = some [.int .i64 0, .int .i64 0] := by kernel_rfl
@[simp] theorem ty_zeroOf63 : zeroOf Try.prog 63 = some [.int .i64 0, .int .i64 0, .int .i64 0, .int .i64 0, .int .i64 0, .slice none 0 0, .int .i64 0] := by kernel_rfl
@[simp] theorem ty_zeroOf65 : zeroOf Try.prog 65 = some [.int .i64 0, .int .i64 0] := by kernel_rfl
@[simp] theorem ty_zeroOf74 : zeroOf Try.prog 74 = some [.int .i64 0, .int .i64 0] := by kernel_rfl
@[simp] theorem ty_zeroOf78 : zeroOf Try.prog 78 = some [.slice none 0 0, .int .i64 0] := by kernel_rfl
@[simp] theorem ty_zeroOf81 : zeroOf Try.prog 81 = some [.int .i64 0, .int .i64 0, .int .i64 0, .int .i64 0] := by kernel_rfl
@[simp] theorem ty_zeroOf87 : zeroOf Try.prog 87 = some [.int .i64 0, .int .i64 0, .int .i64 0, .int .i64 0] := by kernel_rfl
@[simp] theorem ty_zeroOf89 : zeroOf Try.prog 89 = some [.slice none 0 0, .slice none 0 0, .slice none 0 0, .slice none 0 0] := by kernel_rfl
end Go.Proofs.Ytjamehpnclkjdaa
