/- The example of the chapter of modes. It bears no statement of its own. -/
import Derived.Test.YtjamehpnclkjdaaS22
namespace Go.Proofs.Ytjamehpnclkjdaa
open Go Go.Ls
set_option linter.unusedVariables false
set_option linter.unusedSimpArgs false
set_option maxRecDepth 100000
attribute [local irreducible] Box drawF

theorem awake_g : offT lA [⟨0, 2⟩, ⟨0, 5⟩] = .tup [I 5, I 0] := by kernel_rfl
theorem awake_h : relV lA [⟨0, 0⟩, ⟨0, 4⟩] 0 100 = 39 := by kernel_rfl
theorem awake_i : relV lA [⟨0, 0⟩, ⟨0, 5⟩] 0 100 = 0 := by kernel_rfl
theorem validA : validL lA := by decide +kernel
set_option maxHeartbeats 1000000 in
theorem awake21 : Pure Try.prog 21 [] (Bo true) := by
  refine lcalls_go (rts := [.tmp 0]) Try.func21 rfl rfl rfl rfl rfl ?_
  refine WC.on mixed rfl ?_
  simp -dsimp
  refine WC.on mixed rfl ?_
  simp -dsimp
  refine new_block fun b hb => ?_
  simp -dsimp
  refine WC.view 1 (y := .ro 7 (lA.map Jb.lv)) (τ := []) (by simp -dsimp; exact view_jobs0 rfl rfl (by simp [lA]) (Sub.refl _)) ?_
  repeat' first
    | refine WC.on mixed rfl ?_
    | (refine new_block fun b hb => ?_; try simp at hb)
    | (refine call_lit (offset50 lA [⟨0, 2⟩, ⟨0, 5⟩] fitA (by decide)) trivial ⟨View.of_sub (Sub.nil _), View.lit rfl rfl (by simp) (Sub.refl _), trivial⟩ ?_; rw [awake_g])
    | (refine call_lit (releases20 lA [⟨0, 0⟩, ⟨0, 4⟩] 0 100 fitA validA (by decide)) trivial ⟨View.of_sub (Sub.nil _), View.lit rfl rfl (by simp) (Sub.refl _), View.of_sub (Sub.nil _), View.of_sub (Sub.nil _), trivial⟩ ?_; rw [awake_h])
    | (refine call_lit (releases20 lA [⟨0, 0⟩, ⟨0, 5⟩] 0 100 fitA validA (by decide)) trivial ⟨View.of_sub (Sub.nil _), View.lit rfl rfl (by simp) (Sub.refl _), View.of_sub (Sub.nil _), View.of_sub (Sub.nil _), trivial⟩ ?_; rw [awake_i])
    | simp -dsimp []
    | simp -dsimp (disch := omega) only [w64]
    | refine And.intro (by omega) ?_
    | simp -dsimp [*]
    | refine And.intro ?_ ?_
    | intro h
    | done
end Go.Proofs.Ytjamehpnclkjdaa
