/- Demands. It bears no statement of its own. -/
import Derived.Test.YtjamehpnclkjdaaS8
namespace Go.Proofs.Ytjamehpnclkjdaa
open Go Go.Ls
set_option linter.unusedVariables false
set_option linter.unusedSimpArgs false
set_option maxRecDepth 100000
attribute [local irreducible] Box drawF

theorem ceil64 (a b : Int) (h0 : 0 ≤ a) (h1 : a ≤ 1099511627776) : Pure Try.prog 64 [I a, I b] (I (ceil a b)) := by
  have hc := ceil_nonneg a b h0
  have hl := ceil_le a b h0
  refine lcalls_go (rts := [.tmp 4]) Try.func64 rfl rfl rfl rfl rfl ?_
  repeat' first
    | refine WC.on mixed rfl ?_
    | (refine new_block fun b hb => ?_; try simp at hb)
    | refine draw_plan 3 [] [(0, 0), (1, 0), (2, 0), (3, 0), (4, 0), (5, 0), (6, 0), (7, 0), (8, 0), (9, 0)] (by kernel_rfl) rfl ?_
    | refine plan_nil ?_
    | refine plan_none rfl (by simp) ?_
    | refine plan_some rfl rfl (by simp) ?_
    | simp -dsimp []
    | simp -dsimp (disch := omega) only [w64]
    | refine And.intro (by omega) ?_
    | simp -dsimp [*]
    | refine And.intro ?_ ?_
    | intro h
    | done
  · simp [ceil, h]
  · have e := ceil_tdiv a b h0 h
    have e1 := Int.tmod_eq_emod_of_nonneg (b := b) h0
    rw [w64 (n := a.tdiv b) (by omega) (by omega), w64 (by omega) (by omega), e]

theorem sumA_succ {l : List Jb} {i k : Nat} {t : Int} (h : k < l.length) : sumA l i t (k + 1) = sumA l i t k + if bef l k i then ceil (t + l[k].ji) l[k].pe * (l[k].co + l[k].ev) else 0 := by
  rw [sumA, term, List.getElem?_eq_getElem h]
theorem ceil_quo (a b : Int) (h : 0 ≤ a) (hb : 0 < b) : (a + b - 1).tdiv b = ceil a b := by
  unfold ceil
  rw [if_neg (by omega), Int.tdiv_eq_ediv_of_nonneg (by omega)]

set_option maxHeartbeats 1000000 in
theorem demand39 (l : List Jb) (x : Rt) (i : Nat) (ins miss t : Int) (hl : Fit l) (hv : validL l) (hx : Small x) (hi : i < l.length) (hin : 0 ≤ ins ∧ ins ≤ 16777216) (hm : 0 ≤ miss ∧ miss ≤ 100) (h0 : 0 ≤ t) (h1 : t ≤ 16777216) :
    Pure Try.prog 39 [.ro 7 (l.map Jb.lv), x.lv, I i, I ins, I miss, I t] (I (dem l x i ins miss t)) := by
  have hl0 := hl.1
  have b0 := blk_nonneg l i ins
  have b1 := blk_small (i := i) hv hin.1 hin.2
  have m0 := most_bounds x miss t hx (by omega) (by omega) h0 h1
  have c0 := (hv.get hi).1.2.2.2.2.1
  have hlen := hv.1
  refine lcalls_go (rts := [.tmp 12]) Try.func39 rfl rfl rfl rfl rfl ?_
  repeat' first
    | refine WC.on mixed rfl ?_
    | (refine new_block fun b hb => ?_; try simp at hb)
    | refine draw_plan 3 [] [(0, 0), (1, 0), (2, 0), (4, 0), (5, 0), (6, 0), (7, 0), (11, 0), (12, 0), (8, 1), (10, 1), (3, 2), (9, 0), (13, 2), (14, 0), (15, 0)] (by kernel_rfl) rfl ?_
    | refine plan_nil ?_
    | refine plan_none rfl (by simp) ?_
    | refine plan_some rfl rfl (by simp) ?_
    | refine call_pure (blocking61 l i ins hi hl) ?_
    | refine call_pure (most32 x miss t hx (by omega) (by omega) (by omega) (by omega)) ?_
    | simp -dsimp [hi]
    | simp -dsimp (disch := omega) only [w64]
    | refine And.intro (by omega) ?_
    | simp -dsimp [*]
    | refine And.intro ?_ ?_
    | intro h
    | done
  all_goals try (exfalso; omega)
  refine WC.drop (τ := []) (Sub.nil _) ?_
  refine WC.loop (fun m fr σ => ∃ k : Nat, k ≤ l.length ∧ m = l.length - k ∧ σ = [] ∧ fr 0 = .ro 7 (l.map Jb.lv) ∧ fr 2 = I i ∧ fr 5 = I t ∧ fr 13 = I (blk l i ins + l[i].co + most x miss t + sumA l i t k) ∧ fr 39 = .ro 7 (l.map Jb.lv) ∧ fr 40 = I l.length ∧ fr 41 = I k) l.length ⟨0, by omega, by omega, rfl,  by (simp -dsimp [sumA]; simp -dsimp (disch := omega) only [w64])⟩ ?_
  rintro m fr σ ⟨k, hk, rfl, rfl, k0, k2, k5, k13, k39, k40, k41⟩
  refine WC.on mixed rfl ?_
  simp -dsimp [k0, k2, k5, k13, k39, k40, k41]
  refine WC.on mixed rfl ?_
  simp -dsimp
  have s0 := sumA_bounds hv h0 h1 (i := i) k
  refine ⟨fun hlt => ?_, fun hge => ?_⟩
  · have hss := sumA_succ (i := i) (t := t) hlt
    have t0 := term_bounds hv h0 h1 (i := i) (k := k)
    rw [term, List.getElem?_eq_getElem hlt] at t0
    simp only at t0
    obtain ⟨⟨j1, j2, j3, j4, j5, j6⟩, _⟩ := hv.get hlt
    have e0 := ceil_nonneg (t + l[k].ji) l[k].pe (by omega)
    have e1 := ceil_le (t + l[k].ji) l[k].pe (by omega)
    have e2 := ceil_quo (t + l[k].ji) l[k].pe (by omega) (by omega)
    cases hb : bef l k i
    all_goals simp only [hb, if_true, if_false, Bool.false_eq_true] at hss t0
    · repeat' first
        | refine WC.on mixed rfl ?_
        | (refine new_block fun b hb => ?_; try simp at hb)
        | refine call_pure (bef63 l k i hlt hi hl0) ?_
        | simp -dsimp [k0, k2, k5, k13, k39, k40, k41, hlt, hb]
        | simp -dsimp (disch := omega) only [w64]
        | refine And.intro (by omega) ?_
        | simp -dsimp [*]
        | refine And.intro ?_ ?_
        | intro h
        | done
      exact Round.go (l.length - (k + 1)) [] (by omega) (Sub.nil _) ⟨k + 1, by omega, rfl, rfl, by simp -dsimp [hss, k0, k2, k5, k13, k39, k40, k41]⟩
    · repeat' first
        | refine WC.on mixed rfl ?_
        | (refine new_block fun b hb => ?_; try simp at hb)
        | refine draw_plan 8 [] [(0, 0), (1, 0), (2, 0), (5, 0), (8, 0), (10, 0), (3, 1), (4, 0), (6, 1), (9, 1), (11, 1), (12, 0), (7, 2), (13, 0), (14, 0), (15, 0)] (by kernel_rfl) rfl ?_
        | refine plan_nil ?_
        | refine plan_none rfl (by simp) ?_
        | refine plan_some rfl rfl (by simp) ?_
        | refine call_pure (bef63 l k i hlt hi hl0) ?_
        | refine call_pure (ceil64 _ _ (by omega) (by omega)) ?_
        | simp -dsimp [k0, k2, k5, k13, k39, k40, k41, hlt, hb]
        | simp -dsimp (disch := omega) only [w64]
        | refine And.intro (by omega) ?_
        | simp -dsimp [*]
        | refine And.intro ?_ ?_
        | intro h
        | done
      exact Round.go (l.length - (k + 1)) [] (by omega) (Sub.nil _) ⟨k + 1, by omega, rfl, rfl, by simp -dsimp [hss, Int.add_assoc, k0, k2, k5, k13, k39, k40, k41]⟩
  · have : k = l.length := by omega
    subst this
    have hd : dem l x i ins miss t = blk l i ins + l[i].co + most x miss t + sumA l i t l.length := by rw [dem, coOf_eq hi]
    repeat' first
      | refine WC.on mixed rfl ?_
      | (refine new_block fun b hb => ?_; try simp at hb)
      | simp -dsimp [k0, k2, k5, k13, k39, k40, k41]
      | simp -dsimp (disch := omega) only [w64]
      | refine And.intro (by omega) ?_
      | simp -dsimp [*]
      | refine And.intro ?_ ?_
      | intro h
      | done
    all_goals rw [hd]

set_option maxHeartbeats 1000000 in
theorem demand45 (l : List Jb) (x : Rt) (i : Nat) (ins miss t : Int) (hl : Fit l) (hv : validL l) (hx : Small x) (hi : i < l.length) (hin : 0 ≤ ins ∧ ins ≤ 16777216) (hm : 0 ≤ miss ∧ miss ≤ 100) (h0 : 0 ≤ t) (h1 : t ≤ 16777216) :
    Pure Try.prog 45 [.ro 7 (l.map Jb.lv), x.lv, I i, I ins, I miss, I t] (I (dem l x i ins miss t)) := by
  have hl0 := hl.1
  have b0 := blk_nonneg l i ins
  have b1 := blk_small (i := i) hv hin.1 hin.2
  have m0 := most_bounds x miss t hx (by omega) (by omega) h0 h1
  have c0 := (hv.get hi).1.2.2.2.2.1
  have hlen := hv.1
  refine lcalls_go (rts := [.tmp 12]) Try.func45 rfl rfl rfl rfl rfl ?_
  repeat' first
    | refine WC.on mixed rfl ?_
    | (refine new_block fun b hb => ?_; try simp at hb)
    | refine draw_plan 1 [] [(0, 0), (1, 0), (2, 0), (4, 0), (5, 0), (6, 0), (7, 0), (11, 0), (12, 0), (8, 1), (10, 1), (3, 2), (9, 0), (13, 2), (14, 0), (15, 0)] (by kernel_rfl) rfl ?_
    | refine plan_nil ?_
    | refine plan_none rfl (by simp) ?_
    | refine plan_some rfl rfl (by simp) ?_
    | refine call_pure (blocking59 l i ins hi hl) ?_
    | refine call_pure (most33 x miss t hx (by omega) (by omega) (by omega) (by omega)) ?_
    | simp -dsimp [hi]
    | simp -dsimp (disch := omega) only [w64]
    | refine And.intro (by omega) ?_
    | simp -dsimp [*]
    | refine And.intro ?_ ?_
    | intro h
    | done
  all_goals try (exfalso; omega)
  refine WC.drop (τ := []) (Sub.nil _) ?_
  refine WC.loop (fun m fr σ => ∃ k : Nat, k ≤ l.length ∧ m = l.length - k ∧ σ = [] ∧ fr 0 = .ro 7 (l.map Jb.lv) ∧ fr 2 = I i ∧ fr 5 = I t ∧ fr 13 = I (blk l i ins + l[i].co + most x miss t + sumA l i t k) ∧ fr 31 = .ro 7 (l.map Jb.lv) ∧ fr 32 = I l.length ∧ fr 33 = I k) l.length ⟨0, by omega, by omega, rfl,  by (simp -dsimp [sumA]; simp -dsimp (disch := omega) only [w64])⟩ ?_
  rintro m fr σ ⟨k, hk, rfl, rfl, k0, k2, k5, k13, k31, k32, k33⟩
  refine WC.on mixed rfl ?_
  simp -dsimp [k0, k2, k5, k13, k31, k32, k33]
  refine WC.on mixed rfl ?_
  simp -dsimp
  have s0 := sumA_bounds hv h0 h1 (i := i) k
  refine ⟨fun hlt => ?_, fun hge => ?_⟩
  · have hss := sumA_succ (i := i) (t := t) hlt
    have t0 := term_bounds hv h0 h1 (i := i) (k := k)
    rw [term, List.getElem?_eq_getElem hlt] at t0
    simp only at t0
    obtain ⟨⟨j1, j2, j3, j4, j5, j6⟩, _⟩ := hv.get hlt
    have e0 := ceil_nonneg (t + l[k].ji) l[k].pe (by omega)
    have e1 := ceil_le (t + l[k].ji) l[k].pe (by omega)
    have e2 := ceil_quo (t + l[k].ji) l[k].pe (by omega) (by omega)
    cases hb : bef l k i
    all_goals simp only [hb, if_true, if_false, Bool.false_eq_true] at hss t0
    · repeat' first
        | refine WC.on mixed rfl ?_
        | (refine new_block fun b hb => ?_; try simp at hb)
        | refine call_pure (bef66 l k i hlt hi hl0) ?_
        | simp -dsimp [k0, k2, k5, k13, k31, k32, k33, hlt, hb]
        | simp -dsimp (disch := omega) only [w64]
        | refine And.intro (by omega) ?_
        | simp -dsimp [*]
        | refine And.intro ?_ ?_
        | intro h
        | done
      exact Round.go (l.length - (k + 1)) [] (by omega) (Sub.nil _) ⟨k + 1, by omega, rfl, rfl, by simp -dsimp [hss, k0, k2, k5, k13, k31, k32, k33]⟩
    · repeat' first
        | refine WC.on mixed rfl ?_
        | (refine new_block fun b hb => ?_; try simp at hb)
        | refine draw_plan 6 [] [(0, 0), (1, 0), (2, 0), (5, 0), (9, 0), (12, 0), (14, 0), (3, 1), (4, 0), (6, 1), (7, 0), (8, 0), (10, 1), (11, 0), (13, 1), (15, 1), (16, 0), (17, 0), (18, 0), (19, 0)] (by kernel_rfl) rfl ?_
        | refine plan_nil ?_
        | refine plan_none rfl (by simp) ?_
        | refine plan_some rfl rfl (by simp) ?_
        | refine call_pure (bef66 l k i hlt hi hl0) ?_
        | simp -dsimp [k0, k2, k5, k13, k31, k32, k33, hlt, hb, e2]
        | simp -dsimp (disch := omega) only [w64]
        | refine And.intro (by omega) ?_
        | simp -dsimp [*]
        | refine And.intro ?_ ?_
        | intro h
        | done
      exact Round.go (l.length - (k + 1)) [] (by omega) (Sub.nil _) ⟨k + 1, by omega, rfl, rfl, by simp -dsimp [hss, Int.add_assoc, k0, k2, k5, k13, k31, k32, k33]⟩
  · have : k = l.length := by omega
    subst this
    have hd : dem l x i ins miss t = blk l i ins + l[i].co + most x miss t + sumA l i t l.length := by rw [dem, coOf_eq hi]
    repeat' first
      | refine WC.on mixed rfl ?_
      | (refine new_block fun b hb => ?_; try simp at hb)
      | simp -dsimp [k0, k2, k5, k13, k31, k32, k33]
      | simp -dsimp (disch := omega) only [w64]
      | refine And.intro (by omega) ?_
      | simp -dsimp [*]
      | refine And.intro ?_ ?_
      | intro h
      | done
    all_goals rw [hd]
end Go.Proofs.Ytjamehpnclkjdaa
