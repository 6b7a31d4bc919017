/- The law RatesMost, whole. It bears no statement of its own. -/
import Derived.Test.YtjamehpnclkjdaaR7
namespace Go.Proofs.Ytjamehpnclkjdaa
open Go Go.Ls
set_option linter.unusedVariables false
set_option linter.unusedSimpArgs false
set_option maxRecDepth 100000
attribute [local irreducible] Box drawF

theorem ceil_zero (b : Int) : ceil 0 b = 0 := by
  unfold ceil
  split
  · rfl
  · exact Int.ediv_eq_zero_of_lt (by omega) (by omega)
theorem ceil_mono (a c b : Int) (h : a ≤ c) : ceil a b ≤ ceil c b := by
  unfold ceil
  split
  · exact Int.le_refl _
  · exact Int.ediv_le_ediv (by omega) (by omega)
theorem ceil_add (a c b : Int) : ceil (a + c) b ≤ ceil a b + ceil c b := by
  unfold ceil
  split
  · omega
  · rename_i hb
    have hb : 0 < b := by omega
    have h1 := Int.mul_ediv_add_emod (a + b - 1) b
    have h2 := Int.mul_ediv_add_emod (c + b - 1) b
    have h3 := Int.emod_lt_of_pos (a + b - 1) hb
    have h4 := Int.emod_lt_of_pos (c + b - 1) hb
    have h5 := Int.emod_nonneg (a + b - 1) (Int.ne_of_gt hb)
    have h6 := Int.emod_nonneg (c + b - 1) (Int.ne_of_gt hb)
    refine Int.le_of_lt_add_one (Int.ediv_lt_of_lt_mul hb ?_)
    rw [Int.mul_comm]
    rw [Int.mul_add, Int.mul_add]
    omega

theorem most_zero (x : Rt) (e : Int) : most x e 0 = 0 := by simp [most, ceil_zero]
theorem most_mono (x : Rt) (e n m : Int) (hx : Small x) (h0 : 0 ≤ e) (h : n ≤ m) : most x e n ≤ most x e m := by
  have h1 := Int.mul_le_mul_of_nonneg_left (ceil_mono n m x.di h) hx.de.1
  have h2 := Int.mul_le_mul_of_nonneg_left (ceil_mono n m x.pe h) hx.pa.1
  have h3 := Int.mul_le_mul_of_nonneg_left (ceil_mono n m x.wi h) (Int.mul_nonneg h0 hx.er.1)
  unfold most
  omega
theorem most_add (x : Rt) (e n m : Int) (hx : Small x) (h0 : 0 ≤ e) : most x e (n + m) ≤ most x e n + most x e m := by
  have h1 := Int.mul_le_mul_of_nonneg_left (ceil_add n m x.di) hx.de.1
  have h2 := Int.mul_le_mul_of_nonneg_left (ceil_add n m x.pe) hx.pa.1
  have h3 := Int.mul_le_mul_of_nonneg_left (ceil_add n m x.wi) (Int.mul_nonneg h0 hx.er.1)
  rw [Int.mul_add] at h1 h2 h3
  unfold most
  omega
theorem most_le (x : Rt) (e n : Int) (hx : Small x) (h0 : 0 ≤ e) (h1 : e ≤ 80000) (h2 : 0 ≤ n) (h3 : n ≤ 16777216) : 0 ≤ most x e n ∧ most x e n ≤ 844424930131968 := by
  obtain ⟨hdi, hpe, hwi, hde, hpa, her⟩ := hx
  have he1 : 0 ≤ e * x.er := Int.mul_nonneg h0 her.1
  have he2 : e * x.er ≤ 80000 * 200 := Int.mul_le_mul h1 her.2 her.1 (by omega)
  have c1 := ceil_nonneg n x.di h2
  have c2 := ceil_nonneg n x.pe h2
  have c3 := ceil_nonneg n x.wi h2
  have d1 := ceil_le n x.di h2
  have d2 := ceil_le n x.pe h2
  have d3 := ceil_le n x.wi h2
  have p1 := prod_le x.de (ceil n x.di) hde.1 hde.2 c1 (by omega)
  have p2 := prod_le x.pa (ceil n x.pe) hpa.1 hpa.2 c2 (by omega)
  have p3 := prod_le (e * x.er) (ceil n x.wi) he1 (by omega) c3 (by omega)
  unfold most
  omega

set_option maxHeartbeats 4000000 in
theorem law5 (ls : List Int) (p q : Int) (hl : ls.length ≤ 1152921504606846976) : LCalls Try.prog 5 [.ro 1 (ls.map I), I p, I q] [] fun r σ => r = Bo true := by
  have p1 := Int.emod_nonneg p (b := 101) (by omega)
  have p2 := Int.emod_lt_of_pos p (b := 101) (by omega)
  have q1 := Int.emod_nonneg q (b := 5000) (by omega)
  have q2 := Int.emod_lt_of_pos q (b := 5000) (by omega)
  refine lcalls_go (rts := [.tmp 6]) Try.func5 rfl rfl rfl rfl rfl ?_
  repeat' first
    | refine WC.on mixed rfl ?_
    | (refine new_block fun b hb => ?_; try simp at hb)
    | refine draw_plan 3 [] [(1, 0), (2, 0), (5, 0), (6, 0), (0, 1), (4, 1), (3, 2), (7, 2), (8, 0), (9, 0), (11, 0), (10, 1), (12, 2), (13, 0), (14, 0), (15, 0), (17, 0), (18, 0), (21, 0), (22, 0), (23, 0), (16, 1), (20, 1), (19, 2), (24, 2), (25, 0), (26, 0), (27, 0), (29, 0), (30, 0), (33, 0), (37, 0), (38, 0), (39, 0), (28, 1), (32, 1), (36, 1), (31, 2), (34, 2), (35, 0), (40, 2), (41, 0), (42, 0), (43, 0), (44, 2), (45, 0), (46, 0)] (by kernel_rfl) rfl ?_
    | refine plan_nil ?_
    | refine plan_none rfl (by simp) ?_
    | refine plan_some rfl rfl (by simp) ?_
    | (refine call_new (new16 _) ?_; rintro _ _ ⟨b, rfl, rfl⟩)
    | (refine call_split [(dk _, deck ls 0)] [] (List.Perm.refl _) (fun _ _ => trivial) (rates23 ls 0 _ (Nat.zero_le _) hl) ?_; rintro _ _ ⟨x, a, ha, rfl, hxo, rfl⟩; have hx := hxo.small; clear hxo; have m0 := most_zero x (p % 101); have m1 := most_mono x (p % 101) (q % 5000) (q % 5000 + 1) hx p1 (by omega); have m2 := most_add x (p % 101) (q % 5000) 7 hx p1; have l1 := most_le x (p % 101) (q % 5000) hx p1 (by omega) q1 (by omega); have l2 := most_le x (p % 101) 7 hx p1 (by omega) (by omega) (by omega); have lw := w64 (n := most x (p % 101) (q % 5000) + most x (p % 101) 7) (by omega) (by omega))
    | refine call_pure (mod25 _ _ (by omega) (by omega)) ?_
    | refine call_pure (most32 _ _ _ hx (by omega) (by omega) (by omega) (by omega)) ?_
    | refine call_pure (most33 _ _ _ hx (by omega) (by omega) (by omega) (by omega)) ?_
    | refine call_pure awake22 ?_
    | simp -dsimp []
    | simp -dsimp (disch := omega) only [w64]
    | refine And.intro (by omega) ?_
    | simp -dsimp [*]
    | refine And.intro ?_ ?_
    | intro h
    | done
  all_goals first
    | exact ⟨_, Sub.refl _⟩
    | omega
end Go.Proofs.Ytjamehpnclkjdaa
