/- The law is awake. It bears no statement of its own. -/
import Derived.Test.YtjamehpnclkjdaaR6
namespace Go.Proofs.Ytjamehpnclkjdaa
open Go Go.Ls
set_option linter.unusedVariables false
set_option linter.unusedSimpArgs false
set_option maxRecDepth 100000
attribute [local irreducible] Box drawF

theorem awake_a : decide (validR ⟨100, 10, 0, 0, 0, 0⟩) = true := by decide
theorem awake_b : most ⟨100, 10, 0, 0, 0, 0⟩ 5 201 = 30 := by decide
theorem awake_c : checkV ⟨100, 10, 0, 0, 0, 0⟩ [⟨0, 1, false, 0, 0⟩, ⟨99, 1, false, 0, 0⟩] = 39 := by decide
theorem awake_d : cnt [⟨5, 1, false, 0, 0⟩] 1 5 6 = 1 := by decide

theorem awake22 : Pure Try.prog 22 [] (Bo true) := by
  have hs : Small ⟨100, 10, 0, 0, 0, 0⟩ := by constructor <;> simp
  refine lcalls_go (rts := [.tmp 0]) Try.func22 rfl rfl rfl rfl rfl ?_
  repeat' first
    | refine WC.on mixed rfl ?_
    | (refine new_block fun b hb => ?_; try simp at hb)
    | refine call_pure (valid26 ⟨100, 10, 0, 0, 0, 0⟩) ?_
    | refine call_pure (most32 ⟨100, 10, 0, 0, 0, 0⟩ 5 201 hs (by omega) (by omega) (by omega) (by omega)) ?_
    | refine call_lit (check28 ⟨100, 10, 0, 0, 0, 0⟩ [⟨0, 1, false, 0, 0⟩, ⟨99, 1, false, 0, 0⟩] (by decide)) trivial ⟨View.of_sub (Sub.nil _), View.lit rfl rfl (by simp) (Sub.refl _), trivial⟩ ?_
    | refine call_lit (count30 [⟨5, 1, false, 0, 0⟩] 1 5 6 (by decide)) trivial ⟨View.lit rfl rfl (by simp) (Sub.refl _), View.of_sub (Sub.nil _), View.of_sub (Sub.nil _), View.of_sub (Sub.nil _), trivial⟩ ?_
    | simp -dsimp [awake_a, awake_b, awake_c, awake_d]
    | simp -dsimp (disch := omega) only [w64]
    | refine And.intro (by omega) ?_
    | simp -dsimp [*]
    | refine And.intro ?_ ?_
    | intro h
    | done
end Go.Proofs.Ytjamehpnclkjdaa
