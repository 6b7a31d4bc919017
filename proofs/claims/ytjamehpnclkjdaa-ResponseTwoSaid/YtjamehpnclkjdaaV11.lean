/- The law ResponseTwo, whole. It bears no statement of its own. -/
import Derived.Test.YtjamehpnclkjdaaS14
namespace Go.Proofs.Ytjamehpnclkjdaa
open Go Go.Ls
set_option linter.unusedVariables false
set_option linter.unusedSimpArgs false
set_option maxRecDepth 100000
attribute [local irreducible] Box drawF

def lT (n x y : Int) : List Jb := [⟨n, n, 0, 2, x, [], 0⟩, ⟨100000, 100000, 0, 1, y, [], 0⟩]
theorem two_k (n x y : Int) (hx : 1 ≤ x ∧ x ≤ 20) (hy : 1 ≤ y ∧ y ≤ 200) (hn : 21 ≤ n ∧ n ≤ 120) : ∃ k : Int, (1 ≤ k ∧ k ≤ 200) ∧ y + k * x ≤ k * n ∧ ∀ j, 1 ≤ j → j < k → j * n < y + j * x := by
  have key : ∀ m : Nat, m ≤ 200 → (∃ k : Int, (1 ≤ k ∧ k ≤ 200) ∧ y + k * x ≤ k * n ∧ ∀ j, 1 ≤ j → j < k → j * n < y + j * x) ∨ ∀ j : Int, 1 ≤ j → j ≤ m → j * n < y + j * x := by
    intro m
    induction m with
    | zero => exact fun _ => .inr fun j h1 h2 => by omega
    | succ m ih =>
      intro hm
      rcases ih (by omega) with h | h
      · exact .inl h
      · by_cases hj : ((m : Int) + 1) * n < y + ((m : Int) + 1) * x
        · refine .inr fun j h1 h2 => ?_
          by_cases e : j = m + 1
          · subst e; exact hj
          · exact h j h1 (by omega)
        · exact .inl ⟨m + 1, by omega, by omega, fun j h1 h2 => h j h1 (by omega)⟩
  rcases key 200 (Nat.le_refl _) with h | h
  · exact h
  · have := h 200 (by omega) (by omega)
    omega
theorem ceil_ge (s n : Int) (hn : 1 ≤ n) : s ≤ ceil s n * n := by
  unfold ceil
  rw [if_neg (by omega)]
  have h1 := Int.mul_ediv_add_emod (s + n - 1) n
  have h2 := Int.emod_lt_of_pos (s + n - 1) (show 0 < n by omega)
  rw [Int.mul_comm] at h1
  omega
theorem ceil_pos (s n : Int) (hn : 1 ≤ n) (hs : 1 ≤ s) : 1 ≤ ceil s n := by
  unfold ceil
  rw [if_neg (by omega)]
  exact Int.le_ediv_of_mul_le (by omega) (by omega)
theorem ceil_bound (s n k : Int) (hn : 1 ≤ n) (h : s ≤ k * n) : ceil s n ≤ k := by
  unfold ceil
  rw [if_neg (by omega)]
  refine Int.le_of_lt_add_one (Int.ediv_lt_of_lt_mul (by omega) ?_)
  rw [Int.add_mul]
  omega
theorem validT (n x y : Int) (hx : 1 ≤ x ∧ x ≤ 20) (hy : 1 ≤ y ∧ y ≤ 200) (hn : 21 ≤ n ∧ n ≤ 120) : validL (lT n x y) := by
  refine ⟨by simp [lT], fun j hj => ?_⟩
  simp only [lT, List.mem_cons, List.not_mem_nil, or_false] at hj
  rcases hj with rfl | rfl
  · exact ⟨by unfold validN; simp only; omega, fun h hh => by simp at hh⟩
  · exact ⟨by unfold validN; simp only; omega, fun h hh => by simp at hh⟩
theorem mostA (t : Int) : most rA 0 t = 0 := by simp [most, rA]
theorem dem0 (n x y t : Int) : dem (lT n x y) rA 0 0 0 t = x := by
  simp [dem, mostA, lT, coOf, sumA, term, bef, blk, blkA, holds]
theorem dem1 (n x y t : Int) : dem (lT n x y) rA 1 0 0 t = y + ceil t n * x := by
  simp [dem, mostA, lT, coOf, sumA, term, bef, blk, blkA, holds]
theorem rt0 (n x y : Int) (hx : 1 ≤ x ∧ x ≤ 20) (hn : 21 ≤ n ∧ n ≤ 120) : rt (lT n x y) rA 0 0 0 = some x := by
  have e : rt (lT n x y) rA 0 0 0 = resp (dem (lT n x y) rA 0 0 0) 0 n := rfl
  rw [e, resp_some]
  refine ⟨by omega, by omega, ?_, fun s h1 h2 => ?_⟩ <;> rw [dem0] <;> omega
theorem rt1 (n x y k : Int) (hx : 1 ≤ x ∧ x ≤ 20) (hy : 1 ≤ y ∧ y ≤ 200) (hn : 21 ≤ n ∧ n ≤ 120) (h0 : 1 ≤ k ∧ k ≤ 200) (h1 : y + k * x ≤ k * n) (h2 : ∀ j, 1 ≤ j → j < k → j * n < y + j * x) : rt (lT n x y) rA 0 0 1 = some (y + k * x) := by
  have e : rt (lT n x y) rA 0 0 1 = resp (dem (lT n x y) rA 1 0 0) 0 100000 := rfl
  have hk : k * x ≤ 200 * 20 := Int.mul_le_mul h0.2 hx.2 (by omega) (by omega)
  have hk0 : 0 ≤ k * x := Int.mul_nonneg (by omega) (by omega)
  rw [e, resp_some]
  refine ⟨by omega, by omega, ?_, fun s g1 g2 => ?_⟩
  · rw [dem1]
    have := Int.mul_le_mul_of_nonneg_right (ceil_bound (y + k * x) n k (by omega) h1) (show 0 ≤ x by omega)
    omega
  · rw [dem1]
    by_cases hc : k ≤ ceil s n
    · have := Int.mul_le_mul_of_nonneg_right hc (show 0 ≤ x by omega)
      omega
    · have := h2 (ceil s n) (ceil_pos s n (by omega) g1) (by omega)
      have := ceil_ge s n (by omega)
      omega
theorem rtT0 (n x y : Int) (hx : 1 ≤ x ∧ x ≤ 20) (hy : 1 ≤ y ∧ y ≤ 200) (hn : 21 ≤ n ∧ n ≤ 120) : rtT (lT n x y) rA 0 0 0 = .tup [I x, I 0] := by
  have := rtT_ok (i := 0) (x := rA) (ins := 0) (miss := 0) ⟨validT n x y hx hy hn, by decide, by omega, by omega⟩ (by simp [lT])
  rw [rt0 n x y hx hn] at this
  exact this
theorem rtT1 (n x y k : Int) (hx : 1 ≤ x ∧ x ≤ 20) (hy : 1 ≤ y ∧ y ≤ 200) (hn : 21 ≤ n ∧ n ≤ 120) (h0 : 1 ≤ k ∧ k ≤ 200) (h1 : y + k * x ≤ k * n) (h2 : ∀ j, 1 ≤ j → j < k → j * n < y + j * x) : rtT (lT n x y) rA 0 0 1 = .tup [I (y + k * x), I 0] := by
  have := rtT_ok (i := 1) (x := rA) (ins := 0) (miss := 0) ⟨validT n x y hx hy hn, by decide, by omega, by omega⟩ (by simp [lT])
  rw [rt1 n x y k hx hy hn h0 h1 h2] at this
  exact this
theorem fitT (n x y : Int) : Fit (lT n x y) := ⟨by simp [lT], by simp [lT]⟩

set_option maxHeartbeats 4000000 in
theorem law11 (a b p : Int) (ha : 0 ≤ a ∧ a ≤ 255) (hb : 0 ≤ b ∧ b ≤ 255) (hp : 0 ≤ p ∧ p ≤ 255) : LCalls Try.prog 11 [.val (.int .u8 a), .val (.int .u8 b), .val (.int .u8 p)] [] fun r σ => r = Bo true := by
  obtain ⟨x, hx⟩ : ∃ x, 1 + a.tmod 20 = x := ⟨_, rfl⟩
  obtain ⟨y, hy⟩ : ∃ y, 1 + b.tmod 200 = y := ⟨_, rfl⟩
  obtain ⟨n, hn⟩ : ∃ n, 21 + p.tmod 100 = n := ⟨_, rfl⟩
  have x0 : 1 ≤ x ∧ x ≤ 20 := by rw [← hx, Int.tmod_eq_emod_of_nonneg ha.1]; omega
  have y0 : 1 ≤ y ∧ y ≤ 200 := by rw [← hy, Int.tmod_eq_emod_of_nonneg hb.1]; omega
  have n0 : 21 ≤ n ∧ n ≤ 120 := by rw [← hn, Int.tmod_eq_emod_of_nonneg hp.1]; omega
  have x1 : 0 ≤ a.tmod 20 ∧ a.tmod 20 ≤ 19 := by omega
  have y1 : 0 ≤ b.tmod 200 ∧ b.tmod 200 ≤ 199 := by omega
  have n1 : 0 ≤ p.tmod 100 ∧ p.tmod 100 ≤ 99 := by omega
  have xw : IntKind.i64.wrap (1 + (IntKind.i64.wrap a).tmod 20) = x := by rw [w64 (n := a) (by omega) (by omega), w64 (by omega) (by omega), hx]
  have yw : IntKind.i64.wrap (1 + (IntKind.i64.wrap b).tmod 200) = y := by rw [w64 (n := b) (by omega) (by omega), w64 (by omega) (by omega), hy]
  have nw : IntKind.i64.wrap (21 + (IntKind.i64.wrap p).tmod 100) = n := by rw [w64 (n := p) (by omega) (by omega), w64 (by omega) (by omega), hn]
  obtain ⟨k, k0, k1, k2⟩ := two_k n x y x0 y0 n0
  have r0 := rtT0 n x y x0 y0 n0
  have r1 := rtT1 n x y k x0 y0 n0 k0 k1 k2
  have t0 := time40 (lT n x y) rA 0 0 0 (fitT n x y)
  have t1 := time40 (lT n x y) rA 1 0 0 (fitT n x y)
  rw [r0] at t0
  rw [r1] at t1
  have bd : ∀ j, 1 ≤ j → j ≤ 200 → (0 ≤ j * n ∧ j * n ≤ 24000) ∧ (0 ≤ j * x ∧ j * x ≤ 4000) := fun j h1 h2 =>
    ⟨⟨Int.mul_nonneg (by omega) (by omega), Int.le_trans (Int.mul_le_mul h2 n0.2 (by omega) (by omega)) (by omega)⟩, ⟨Int.mul_nonneg (by omega) (by omega), Int.le_trans (Int.mul_le_mul h2 x0.2 (by omega) (by omega)) (by omega)⟩⟩
  refine lcalls_go (rts := [.tmp 6]) Try.func11 rfl rfl rfl rfl rfl ?_
  refine WC.on mixed rfl ?_
  repeat' first
    | (refine new_block fun b hb => ?_; try simp at hb)
    | simp -dsimp []
    | simp -dsimp (disch := omega) only [w64]
    | refine And.intro (by omega) ?_
    | simp -dsimp [*]
    | refine And.intro ?_ ?_
    | intro h
    | done
  refine WC.on mixed rfl ?_
  repeat' first
    | (refine new_block fun b hb => ?_; try simp at hb)
    | simp -dsimp [xw, yw, nw]
    | simp -dsimp (disch := omega) only [w64]
    | refine And.intro (by omega) ?_
    | simp -dsimp [*]
    | refine And.intro ?_ ?_
    | intro h
    | done
  refine WC.on mixed rfl ?_
  repeat' first
    | (refine new_block fun b hb => ?_; try simp at hb)
    | simp -dsimp [xw, yw, nw]
    | simp -dsimp (disch := omega) only [w64]
    | refine And.intro (by omega) ?_
    | simp -dsimp [*]
    | refine And.intro ?_ ?_
    | intro h
    | done
  refine WC.view 10 (y := .ro 7 ((lT n x y).map Jb.lv)) (τ := []) (by simp -dsimp [xw, yw, nw]; exact view_jobs0 (js := lT n x y) rfl rfl (by simp [lT]) (Sub.refl _)) ?_
  repeat' first
    | refine WC.on mixed rfl ?_
    | (refine new_block fun b hb => ?_; try simp at hb)
    | refine call_pure t0 ?_
    | refine call_pure t1 ?_
    | simp -dsimp []
    | simp -dsimp (disch := omega) only [w64]
    | refine And.intro (by omega) ?_
    | simp -dsimp [*]
    | refine And.intro ?_ ?_
    | intro h
    | done
  refine WC.loop (fun m fr σ => ∃ j : Int, (1 ≤ j ∧ j ≤ k) ∧ m = (k - j).toNat ∧ σ = [] ∧ fr 7 = I x ∧ fr 8 = I y ∧ fr 9 = I n ∧ fr 11 = I (y + k * x) ∧ fr 12 = I 0 ∧ fr 13 = I x ∧ fr 14 = I 0 ∧ fr 15 = I j) (k - 1).toNat ⟨1, by omega, rfl, rfl, by simp -dsimp⟩ ?_
  rintro m fr σ ⟨j, hj, rfl, rfl, f7, f8, f9, f11, f12, f13, f14, f15⟩
  obtain ⟨⟨e0, e1⟩, ⟨e2, e3⟩⟩ := bd j hj.1 (by omega)
  by_cases e : j = k
  · subst e
    repeat' first
      | refine WC.on mixed rfl ?_
      | (refine new_block fun b hb => ?_; try simp at hb)
      | refine call_pure awake34 ?_
      | simp -dsimp [f7, f8, f9, f11, f12, f13, f14, f15]
      | simp -dsimp (disch := omega) only [w64]
      | refine And.intro (by omega) ?_
      | simp -dsimp [*]
      | refine And.intro ?_ ?_
      | intro h
      | done
    all_goals first
      | (exfalso; omega)
      | exact ⟨_, Sub.nil _⟩
  · have := k2 j hj.1 (by omega)
    repeat' first
      | refine WC.on mixed rfl ?_
      | (refine new_block fun b hb => ?_; try simp at hb)
      | refine call_pure awake34 ?_
      | simp -dsimp [f7, f8, f9, f11, f12, f13, f14, f15]
      | simp -dsimp (disch := omega) only [w64]
      | refine And.intro (by omega) ?_
      | simp -dsimp [*]
      | refine And.intro ?_ ?_
      | intro h
      | done
    all_goals first
      | (exfalso; omega)
      | exact Round.go _ _ (by omega) (Sub.refl _) ⟨j + 1, by omega, rfl, rfl, by simp -dsimp [f7, f8, f9, f11, f12, f13, f14]⟩
end Go.Proofs.Ytjamehpnclkjdaa
