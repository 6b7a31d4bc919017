/- Rates that are valid, as the document has it; what is asked of a set of jobs. It bears no statement of its own. -/
import Derived.Test.YtjamehpnclkjdaaS7
namespace Go.Proofs.Ytjamehpnclkjdaa
open Go Go.Ls
set_option linter.unusedVariables false
set_option linter.unusedSimpArgs false
set_option maxRecDepth 100000
attribute [local irreducible] Box drawF

set_option maxHeartbeats 1000000 in
theorem valid27 (x : Rt) : Pure Try.prog 27 [x.lv] (Bo (decide (validR x))) := by
  refine lcalls_go (rts := [.tmp 2]) Try.func27 rfl rfl rfl rfl rfl ?_
  repeat' first
    | refine WC.on mixed rfl ?_
    | (refine new_block fun b hb => ?_; try simp at hb)
    | simp -dsimp []
    | simp -dsimp (disch := omega) only [w64]
    | refine And.intro (by omega) ?_
    | simp -dsimp [*]
    | refine And.intro ?_ ?_
    | intro h
    | done
  rename_i b1 hb1
  refine WC.loop (fun m fr σ => ∃ i : Nat, i ≤ 3 ∧ m = 3 - i ∧ σ = [(⟨b, 1, 3⟩, [I x.di, I x.pe, I x.wi]), (⟨b1, 6, 6⟩, [x.lv])] ∧ (∀ j, j < i → 0 ≤ [x.di, x.pe, x.wi].getD j 0 ∧ [x.di, x.pe, x.wi].getD j 0 ≤ 16777216) ∧ fr 1 = .ref ⟨b1, 6, 6⟩ 0 0 ∧ fr 11 = .msl ⟨b, 1, 3⟩ 0 3 ∧ fr 12 = I 3 ∧ fr 13 = I i) 3 ⟨0, by simp -dsimp⟩ ?_
  rintro m fr σ ⟨i, hi, rfl, rfl, hbe, k1, k11, k12, k13⟩
  have hi' : i = 0 ∨ i = 1 ∨ i = 2 ∨ i = 3 := by omega
  rcases hi' with rfl | rfl | rfl | rfl
  · repeat' first
      | refine WC.on mixed rfl ?_
      | (refine new_block fun b hb => ?_; try simp at hb)
      | simp -dsimp [k1, k11, k12, k13]
      | simp -dsimp (disch := omega) only [w64]
      | refine And.intro (by omega) ?_
      | simp -dsimp [*]
      | refine And.intro ?_ ?_
      | intro h
      | done
    all_goals first
      | (refine Round.go 2 _ (by omega) (Sub.refl _) ⟨1, by omega, rfl, rfl, fun j hj => ?_, by simp -dsimp [k1, k11, k12, k13]⟩
         by_cases e : j = 0
         · subst e; simp; omega
         · exact hbe j (by omega))
      | (have hx : ¬ validR x := fun hv => by grind [validR]
         first
           | exact hx
           | exact hx (by assumption)
           | (simp [hx]; done)
           | trace_state)
  · repeat' first
      | refine WC.on mixed rfl ?_
      | (refine new_block fun b hb => ?_; try simp at hb)
      | simp -dsimp [k1, k11, k12, k13]
      | simp -dsimp (disch := omega) only [w64]
      | refine And.intro (by omega) ?_
      | simp -dsimp [*]
      | refine And.intro ?_ ?_
      | intro h
      | done
    all_goals first
      | (refine Round.go 1 _ (by omega) (Sub.refl _) ⟨2, by omega, rfl, rfl, fun j hj => ?_, by simp -dsimp [k1, k11, k12, k13]⟩
         by_cases e : j = 1
         · subst e; simp; omega
         · exact hbe j (by omega))
      | (have hx : ¬ validR x := fun hv => by grind [validR]
         first
           | exact hx
           | exact hx (by assumption)
           | (simp [hx]; done)
           | trace_state)
  · repeat' first
      | refine WC.on mixed rfl ?_
      | (refine new_block fun b hb => ?_; try simp at hb)
      | simp -dsimp [k1, k11, k12, k13]
      | simp -dsimp (disch := omega) only [w64]
      | refine And.intro (by omega) ?_
      | simp -dsimp [*]
      | refine And.intro ?_ ?_
      | intro h
      | done
    all_goals first
      | (refine Round.go 0 _ (by omega) (Sub.refl _) ⟨3, by omega, rfl, rfl, fun j hj => ?_, by simp -dsimp [k1, k11, k12, k13]⟩
         by_cases e : j = 2
         · subst e; simp; omega
         · exact hbe j (by omega))
      | (have hx : ¬ validR x := fun hv => by grind [validR]
         first
           | exact hx
           | exact hx (by assumption)
           | (simp [hx]; done)
           | trace_state)
  · have a0 := hbe 0 (by omega)
    have a1 := hbe 1 (by omega)
    have a2 := hbe 2 (by omega)
    simp at a0 a1 a2
    repeat' first
      | refine WC.on mixed rfl ?_
      | (refine new_block fun b hb => ?_; try simp at hb)
      | simp -dsimp [k1, k11, k12, k13]
      | simp -dsimp (disch := omega) only [w64]
      | refine And.intro (by omega) ?_
      | simp -dsimp [*]
      | refine And.intro ?_ ?_
      | intro h
      | done
    all_goals grind [validR]

theorem check60 (l : List Jb) (x : Rt) (ins miss : Int) (hl : Fit l) : Pure Try.prog 60 [.ro 7 (l.map Jb.lv), x.lv, I ins, I miss] (I (if okC l x ins miss then 0 else 40)) := by
  refine lcalls_go (rts := [.tmp 8]) Try.func60 rfl rfl rfl rfl rfl ?_
  repeat' first
    | refine WC.on mixed rfl ?_
    | (refine new_block fun b hb => ?_; try simp at hb)
    | refine call_pure (valid68 _ hl) ?_
    | refine call_pure (valid26 _) ?_
    | simp -dsimp []
    | simp -dsimp (disch := omega) only [w64]
    | refine And.intro (by omega) ?_
    | simp -dsimp [*]
    | refine And.intro ?_ ?_
    | intro h
    | done
  all_goals grind [okC]

theorem good58 (l : List Jb) (x : Rt) (ins miss : Int) (hl : Fit l) : Pure Try.prog 58 [.ro 7 (l.map Jb.lv), x.lv, I ins, I miss] (Bo (decide (okC l x ins miss))) := by
  refine lcalls_go (rts := [.tmp 8]) Try.func58 rfl rfl rfl rfl rfl ?_
  repeat' first
    | refine WC.on mixed rfl ?_
    | (refine new_block fun b hb => ?_; try simp at hb)
    | refine call_pure (valid69 _ hl) ?_
    | refine call_pure (valid27 _) ?_
    | simp -dsimp []
    | simp -dsimp (disch := omega) only [w64]
    | refine And.intro (by omega) ?_
    | simp -dsimp [*]
    | refine And.intro ?_ ?_
    | intro h
    | done
  all_goals grind [okC]
end Go.Proofs.Ytjamehpnclkjdaa
