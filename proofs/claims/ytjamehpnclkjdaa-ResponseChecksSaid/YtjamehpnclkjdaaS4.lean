/- Valid jobs; ceilings. It bears no statement of its own. -/
import Derived.Test.YtjamehpnclkjdaaS3
namespace Go.Proofs.Ytjamehpnclkjdaa
open Go Go.Ls
set_option linter.unusedVariables false
set_option linter.unusedSimpArgs false
set_option maxRecDepth 100000
attribute [local irreducible] Box drawF

theorem any_validJ (l : List Jb) : (l.any fun j => !decide (validJ j)) = !decide (∀ j ∈ l, validJ j) := by
  rw [Bool.eq_iff_iff]
  simp
/-- No list of sections is too long for a machine. -/
def Fit (l : List Jb) : Prop := l.length ≤ 1152921504606846976 ∧ ∀ j ∈ l, j.se.length ≤ 1152921504606846976
theorem valid68 (l : List Jb) (hl : Fit l) : Pure Try.prog 68 [.ro 7 (l.map Jb.lv)] (Bo (decide (validL l))) := by
  have ha := any_validJ l
  refine lcalls_go (rts := [.tmp 2]) Try.func68 rfl rfl rfl rfl rfl ?_
  repeat' first
    | refine WC.on mixed rfl ?_
    | (refine new_block fun b hb => ?_; try simp at hb)
    | refine call_pure (contains75 76 [] (fun j => !decide (validJ j)) l hl.1 fun j hj => bad76 j (hl.2 j hj)) ?_
    | simp -dsimp []
    | simp -dsimp (disch := omega) only [w64]
    | refine And.intro (by omega) ?_
    | simp -dsimp [*]
    | refine And.intro ?_ ?_
    | intro h
    | done
  all_goals grind [validL]

theorem uses80 (j : Jb) (r : Int) (hl : j.se.length ≤ 1152921504606846976) : Pure Try.prog 80 [j.lv, I r] (Bo (usesR j r)) := by
  refine lcalls_go (rts := [.tmp 4]) Try.func80 rfl rfl rfl rfl rfl ?_
  repeat' first
    | refine WC.on mixed rfl ?_
    | (refine new_block fun b hb => ?_; try simp at hb)
    | simp -dsimp []
    | simp -dsimp (disch := omega) only [w64]
    | refine And.intro (by omega) ?_
    | simp -dsimp [*]
    | refine And.intro ?_ ?_
    | intro h
    | done
  refine WC.drop (τ := []) (Sub.nil _) ?_
  refine WC.loop (fun m fr σ => ∃ i : Nat, i ≤ j.se.length ∧ m = j.se.length - i ∧ σ = [] ∧ (∀ q (hq : q < j.se.length), q < i → j.se[q].re ≠ r) ∧ fr 1 = I r ∧ fr 8 = .ro 2 (j.se.map Hd.lv) ∧ fr 9 = I j.se.length ∧ fr 10 = I i) j.se.length ⟨0, by omega, by omega, rfl, by simp, by simp -dsimp []⟩ ?_
  rintro m fr σ ⟨i, hi, rfl, rfl, hbe, k1, k8, k9, k10⟩
  refine WC.on mixed rfl ?_
  simp -dsimp [k1, k8, k9, k10]
  refine WC.on mixed rfl ?_
  simp -dsimp
  refine ⟨fun hlt => ?_, fun hge => ?_⟩
  · repeat' first
    | refine WC.on mixed rfl ?_
    | (refine new_block fun b hb => ?_; try simp at hb)
    | simp -dsimp [k1, k8, k9, k10, hlt]
    | simp -dsimp (disch := omega) only [w64]
    | refine And.intro (by omega) ?_
    | simp -dsimp [*]
    | refine And.intro ?_ ?_
    | intro h
    | done
    · have hu : usesR j r = true := List.any_eq_true.2 ⟨_, List.getElem_mem hlt, by simp [*]⟩
      simp [hu]
    · refine Round.go (j.se.length - (i + 1)) [] (by omega) (Sub.nil _) ⟨i + 1, by omega, rfl, rfl, fun q hq hqi => ?_, by simp -dsimp [k1, k8, k9, k10]⟩
      by_cases e : q = i
      · subst e; assumption
      · exact hbe q hq (by omega)
  · have hu : usesR j r = false := by
      unfold usesR
      rw [List.any_eq_false]
      intro x hx
      obtain ⟨q, hq, rfl⟩ := List.getElem_of_mem hx
      simp [hbe q hq (by omega)]
    repeat' first
      | refine WC.on mixed rfl ?_
      | (refine new_block fun b hb => ?_; try simp at hb)
      | simp -dsimp [k1, k8, k9, k10]
      | simp -dsimp (disch := omega) only [w64]
      | refine And.intro (by omega) ?_
      | simp -dsimp [*]
      | refine And.intro ?_ ?_
      | intro h
      | done
    all_goals simp [hu]
end Go.Proofs.Ytjamehpnclkjdaa
