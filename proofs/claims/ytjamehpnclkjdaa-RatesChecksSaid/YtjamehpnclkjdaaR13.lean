/- How far apart, as the document has it; rates that are valid (a second time, for the texts of rates). It bears no statement of its own. -/
import Derived.Test.YtjamehpnclkjdaaR6
namespace Go.Proofs.Ytjamehpnclkjdaa
open Go Go.Ls
set_option linter.unusedVariables false
set_option linter.unusedSimpArgs false
set_option maxRecDepth 100000
attribute [local irreducible] Box drawF

theorem gaps_less {ts : List Int} {n : Nat} {ap : Int} {i : Nat} (hi : i < ts.length) (hn : n ≤ i) (h : ts.getD i 0 - ts.getD (i - n) 0 < ap) : gapsB ts n ap ts.length = false := by
  cases hb : gapsB ts n ap ts.length with
  | false => rfl
  | true =>
    simp only [gapsB, decide_eq_true_eq] at hb
    have := hb (i - n) (by omega) (by omega)
    rw [show i - n + n = i by omega] at this
    omega
theorem apart55 (ts : List Int) (n : Nat) (ap : Int) (hl : ts.length ≤ 16777216) (ht : ∀ (i : Nat) (hi : i < ts.length), 0 ≤ ts[i] ∧ ts[i] ≤ 16777216) (hn : 1 ≤ n) (hn' : n ≤ 16777216) :
    Pure Try.prog 55 [.ro 1 (ts.map I), I n, I ap] (Bo (apartB ts ap n)) := by
  by_cases h0 : ap = 0
  · have e0 : apartB ts ap n = decide (ts = []) := by unfold apartB; rw [if_pos (.inl h0)]
    rw [e0]
    refine lcalls_go (rts := [.tmp 6]) Try.func55 rfl rfl rfl rfl rfl ?_
    repeat' first
      | refine WC.on mixed rfl ?_
      | (refine new_block fun b hb => ?_; try simp at hb)
      | simp -dsimp [h0]
      | simp -dsimp (disch := omega) only [w64]
      | refine And.intro (by omega) ?_
      | simp -dsimp [*]
      | refine And.intro ?_ ?_
      | intro h
      | done
    all_goals simp
  have e0 : apartB ts ap n = gapsB ts n ap ts.length := by unfold apartB; rw [if_neg (by omega)]; rfl
  rw [e0]
  refine lcalls_go (rts := [.tmp 6]) Try.func55 rfl rfl rfl rfl rfl ?_
  repeat' first
    | refine WC.on mixed rfl ?_
    | (refine new_block fun b hb => ?_; try simp at hb)
    | simp -dsimp [h0]
    | simp -dsimp (disch := omega) only [w64]
    | refine And.intro (by omega) ?_
    | simp -dsimp [*]
    | refine And.intro ?_ ?_
    | intro h
    | done
  refine WC.loop (fun m fr σ => ∃ i : Nat, i ≤ ts.length ∧ m = ts.length - i ∧ σ = [] ∧ (∀ j, j + n < i → ap ≤ ts.getD (j + n) 0 - ts.getD j 0) ∧ fr 0 = .ro 1 (ts.map I) ∧ fr 1 = I n ∧ fr 2 = I ap ∧ fr 13 = .ro 1 (ts.map I) ∧ fr 14 = I ts.length ∧ fr 15 = I i) ts.length ⟨0, by omega, by omega, rfl, by simp, by (simp -dsimp [])⟩ ?_
  rintro m fr σ ⟨i, hi, rfl, rfl, hbe, k0, k1, k2, k13, k14, k15⟩
  refine WC.on mixed rfl ?_
  simp -dsimp [k0, k1, k2, k13, k14, k15]
  refine WC.on mixed rfl ?_
  simp -dsimp
  refine ⟨fun hlt => ?_, fun hge => ?_⟩
  · have hi0 := ht i hlt
    by_cases hq : n ≤ i
    · have hq' : (n : Int) ≤ i := by omega
      have hp : i - n < ts.length := by omega
      have hi1 := ht (i - n) hp
      have tn : ((i : Int) - (n : Int)).toNat = i - n := by omega
      have g0 := getD_lt ts 0 hlt
      have g1 := getD_lt ts 0 hp
      repeat' first
        | refine WC.on mixed rfl ?_
        | (refine new_block fun b hb => ?_; try simp at hb)
        | refine draw_plan 6 [] [(0, 0), (1, 0), (2, 0), (3, 0), (4, 0), (5, 0), (6, 0), (8, 0), (9, 0), (10, 0), (11, 0), (12, 0), (15, 0), (7, 1), (13, 1), (14, 0), (16, 0), (17, 0)] (by kernel_rfl) rfl ?_
        | refine plan_nil ?_
        | refine plan_none rfl (by simp) ?_
        | refine plan_some rfl rfl (by simp) ?_
        | simp -dsimp [k0, k1, k2, k13, k14, k15, hlt, hp, tn, hq']
        | simp -dsimp (disch := omega) only [w64]
        | refine And.intro (by omega) ?_
        | simp -dsimp [*]
        | refine And.intro ?_ ?_
        | intro h
        | done
      all_goals first
        | (have := gaps_less (n := n) (ap := ap) hlt hq (by rw [g0, g1]; assumption)
           simp [this]; done)
        | (refine Round.go (ts.length - (i + 1)) _ (by omega) (Sub.refl _) ⟨i + 1, by omega, rfl, rfl, fun j hj => ?_, by simp -dsimp [k0, k1, k2, k13, k14, k15]⟩
           by_cases e : j + n = i
           · have e2 : j = i - n := by omega
             rw [e, e2, g0, g1]
             omega
           · exact hbe j (by omega))
        | trace_state
    · have hq' : ¬ (n : Int) ≤ i := by omega
      repeat' first
        | refine WC.on mixed rfl ?_
        | (refine new_block fun b hb => ?_; try simp at hb)
        | refine draw_plan 6 [] [(0, 0), (1, 0), (2, 0), (3, 0), (4, 0), (5, 0), (6, 0), (8, 0), (9, 0), (10, 0), (11, 0), (12, 0), (15, 0), (7, 1), (13, 1), (14, 0), (16, 0), (17, 0)] (by kernel_rfl) rfl ?_
        | refine plan_nil ?_
        | refine plan_none rfl (by simp) ?_
        | refine plan_some rfl rfl (by simp) ?_
        | simp -dsimp [k0, k1, k2, k13, k14, k15, hlt, hq']
        | simp -dsimp (disch := omega) only [w64]
        | refine And.intro (by omega) ?_
        | simp -dsimp [*]
        | refine And.intro ?_ ?_
        | intro h
        | done
      all_goals exact Round.go (ts.length - (i + 1)) _ (by omega) (Sub.refl _) ⟨i + 1, by omega, rfl, rfl, fun j hj => hbe j (by omega), by simp -dsimp [k0, k1, k2, k13, k14, k15]⟩
  · have hyes : gapsB ts n ap ts.length = true := by
      simp only [gapsB, decide_eq_true_eq]
      exact fun j hj hjn => hbe j (by omega)
    rw [hyes]
    repeat' first
      | refine WC.on mixed rfl ?_
      | (refine new_block fun b hb => ?_; try simp at hb)
      | simp -dsimp [k0, k1, k2, k13, k14, k15]
      | simp -dsimp (disch := omega) only [w64]
      | refine And.intro (by omega) ?_
      | simp -dsimp [*]
      | refine And.intro ?_ ?_
      | intro h
      | done

set_option maxHeartbeats 1000000 in
theorem valid27r (x : Rt) : Pure Try.prog 27 [x.lv] (Bo (decide (validR x))) := by
  refine lcalls_go (rts := [.tmp 2]) Try.func27 rfl rfl rfl rfl rfl ?_
  repeat' first
    | refine WC.on mixed rfl ?_
    | (refine new_block fun b hb => ?_; try simp at hb)
    | simp -dsimp []
    | simp -dsimp (disch := omega) only [w64]
    | refine And.intro (by omega) ?_
    | simp -dsimp [*]
    | refine And.intro ?_ ?_
    | intro h
    | done
  rename_i b1 hb1
  refine WC.loop (fun m fr σ => ∃ i : Nat, i ≤ 3 ∧ m = 3 - i ∧ σ = [(⟨b, 1, 3⟩, [I x.di, I x.pe, I x.wi]), (⟨b1, 6, 6⟩, [x.lv])] ∧ (∀ j, j < i → 0 ≤ [x.di, x.pe, x.wi].getD j 0 ∧ [x.di, x.pe, x.wi].getD j 0 ≤ 16777216) ∧ fr 1 = .ref ⟨b1, 6, 6⟩ 0 0 ∧ fr 11 = .msl ⟨b, 1, 3⟩ 0 3 ∧ fr 12 = I 3 ∧ fr 13 = I i) 3 ⟨0, by simp -dsimp⟩ ?_
  rintro m fr σ ⟨i, hi, rfl, rfl, hbe, k1, k11, k12, k13⟩
  have hi' : i = 0 ∨ i = 1 ∨ i = 2 ∨ i = 3 := by omega
  rcases hi' with rfl | rfl | rfl | rfl
  · repeat' first
      | refine WC.on mixed rfl ?_
      | (refine new_block fun b hb => ?_; try simp at hb)
      | simp -dsimp [k1, k11, k12, k13]
      | simp -dsimp (disch := omega) only [w64]
      | refine And.intro (by omega) ?_
      | simp -dsimp [*]
      | refine And.intro ?_ ?_
      | intro h
      | done
    all_goals first
      | (refine Round.go 2 _ (by omega) (Sub.refl _) ⟨1, by omega, rfl, rfl, fun j hj => ?_, by simp -dsimp [k1, k11, k12, k13]⟩
         by_cases e : j = 0
         · subst e; simp; omega
         · exact hbe j (by omega))
      | (have hx : ¬ validR x := fun hv => by grind [validR]
         first
           | exact hx
           | exact hx (by assumption)
           | (simp [hx]; done)
           | trace_state)
  · repeat' first
      | refine WC.on mixed rfl ?_
      | (refine new_block fun b hb => ?_; try simp at hb)
      | simp -dsimp [k1, k11, k12, k13]
      | simp -dsimp (disch := omega) only [w64]
      | refine And.intro (by omega) ?_
      | simp -dsimp [*]
      | refine And.intro ?_ ?_
      | intro h
      | done
    all_goals first
      | (refine Round.go 1 _ (by omega) (Sub.refl _) ⟨2, by omega, rfl, rfl, fun j hj => ?_, by simp -dsimp [k1, k11, k12, k13]⟩
         by_cases e : j = 1
         · subst e; simp; omega
         · exact hbe j (by omega))
      | (have hx : ¬ validR x := fun hv => by grind [validR]
         first
           | exact hx
           | exact hx (by assumption)
           | (simp [hx]; done)
           | trace_state)
  · repeat' first
      | refine WC.on mixed rfl ?_
      | (refine new_block fun b hb => ?_; try simp at hb)
      | simp -dsimp [k1, k11, k12, k13]
      | simp -dsimp (disch := omega) only [w64]
      | refine And.intro (by omega) ?_
      | simp -dsimp [*]
      | refine And.intro ?_ ?_
      | intro h
      | done
    all_goals first
      | (refine Round.go 0 _ (by omega) (Sub.refl _) ⟨3, by omega, rfl, rfl, fun j hj => ?_, by simp -dsimp [k1, k11, k12, k13]⟩
         by_cases e : j = 2
         · subst e; simp; omega
         · exact hbe j (by omega))
      | (have hx : ¬ validR x := fun hv => by grind [validR]
         first
           | exact hx
           | exact hx (by assumption)
           | (simp [hx]; done)
           | trace_state)
  · have a0 := hbe 0 (by omega)
    have a1 := hbe 1 (by omega)
    have a2 := hbe 2 (by omega)
    simp at a0 a1 a2
    repeat' first
      | refine WC.on mixed rfl ?_
      | (refine new_block fun b hb => ?_; try simp at hb)
      | simp -dsimp [k1, k11, k12, k13]
      | simp -dsimp (disch := omega) only [w64]
      | refine And.intro (by omega) ?_
      | simp -dsimp [*]
      | refine And.intro ?_ ?_
      | intro h
      | done
    all_goals grind [validR]
end Go.Proofs.Ytjamehpnclkjdaa
