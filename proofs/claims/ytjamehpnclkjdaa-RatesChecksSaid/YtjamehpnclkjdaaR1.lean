/- The functions of disturbances' rates, each by what it answers. It bears no statement of its own. -/
import Derived.Test.YtjamehpnclkjdaaTy
import Derived.Test.YtjamehpnclkjdaaLn
namespace Go.Proofs.Ytjamehpnclkjdaa
open Go Go.Ls
set_option linter.unusedVariables false
set_option linter.unusedSimpArgs false
set_option maxRecDepth 100000

abbrev I (n : Int) : LV := .val (.int .i64 n)
abbrev Bo (b : Bool) : LV := .val (.bool b)
theorem w64 {n : Int} (h0 : -9223372036854775808 ≤ n) (h1 : n ≤ 9223372036854775807) : IntKind.i64.wrap n = n := by rw [IntKind.wrap_i64]; omega

/-- Rates. -/
structure Rt where
  di : Int
  de : Int
  pe : Int
  pa : Int
  wi : Int
  er : Int
@[simp] def Rt.lv (x : Rt) : LV := .agg [I x.di, I x.de, I x.pe, I x.pa, I x.wi, I x.er]
/-- A disturbance. -/
structure Db where
  t : Int
  k : Int
  da : Bool
  s : Int
  p : Int
@[simp] def Db.lv (x : Db) : LV := .agg [I x.t, I x.k, Bo x.da, I x.s, I x.p]

theorem within51 (a b : Int) : Pure Try.prog 51 [I a, I b] (Bo (decide (0 ≤ a) && decide (a ≤ b))) := by
  refine lcalls_intro (rts := [.tmp 4]) Try.func51 rfl rfl rfl rfl rfl (WC.go mixed ?_)
  simp -dsimp
  refine WC.go mixed ?_; simp -dsimp
  constructor <;> intro h <;> refine WC.go mixed ?_
  · simp -dsimp [h]
  · simp -dsimp [h]; omega

def validR (x : Rt) : Prop := (0 ≤ x.di ∧ x.di ≤ 16777216) ∧ (0 ≤ x.pe ∧ x.pe ≤ 16777216) ∧ (0 ≤ x.wi ∧ x.wi ≤ 16777216) ∧ (0 ≤ x.de ∧ x.de ≤ x.di) ∧ (0 ≤ x.pa ∧ x.pa ≤ x.pe) ∧ (0 ≤ x.er ∧ x.er ≤ 200) ∧ (0 < x.wi ∨ x.er = 0)
instance (x : Rt) : Decidable (validR x) := by unfold validR; infer_instance

theorem valid26 (x : Rt) : Pure Try.prog 26 [x.lv] (Bo (decide (validR x))) := by
  refine lcalls_intro (rts := [.tmp 2]) Try.func26 rfl rfl rfl rfl rfl (WC.go mixed ?_)
  simp -dsimp
  refine new_block fun b hb => ?_
  simp -dsimp
  refine WC.go mixed ?_
  simp -dsimp
  refine call_pure (within51 _ _) ?_
  simp -dsimp
  refine ⟨fun h1 h1' => ?_, fun h => ?_⟩
  rotate_left
  · refine WC.go mixed ?_; simp -dsimp; grind [validR]
  refine call_pure (within51 _ _) ?_
  simp -dsimp
  refine ⟨fun h2 h2' => ?_, fun h => ?_⟩
  rotate_left
  · refine WC.go mixed ?_; simp -dsimp; grind [validR]
  refine call_pure (within51 _ _) ?_
  simp -dsimp
  refine ⟨fun h3 h3' => ?_, fun h => ?_⟩
  rotate_left
  · refine WC.go mixed ?_; simp -dsimp; grind [validR]
  refine call_pure (within51 _ _) ?_
  simp -dsimp
  refine ⟨fun h4 h4' => ?_, fun h => ?_⟩
  rotate_left
  · refine WC.go mixed ?_; simp -dsimp; grind [validR]
  refine call_pure (within51 _ _) ?_
  simp -dsimp
  refine ⟨fun h5 h5' => ?_, fun h => ?_⟩
  rotate_left
  · refine WC.go mixed ?_; simp -dsimp; grind [validR]
  refine call_pure (within51 _ _) ?_
  simp -dsimp
  refine ⟨fun h6 h6' => ⟨fun h7 => ?_, fun h7 => ?_⟩, fun h => ?_⟩
  · refine WC.go mixed ?_; simp -dsimp; grind [validR]
  · refine WC.go mixed ?_; simp -dsimp; grind [validR]
  · refine WC.go mixed ?_; simp -dsimp; grind [validR]
end Go.Proofs.Ytjamehpnclkjdaa
