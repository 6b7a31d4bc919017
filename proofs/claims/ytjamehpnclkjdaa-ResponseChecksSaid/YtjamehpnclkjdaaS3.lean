/- Searches in lists; valid jobs. It bears no statement of its own. -/
import Derived.Test.YtjamehpnclkjdaaS2
namespace Go.Proofs.Ytjamehpnclkjdaa
open Go Go.Ls
set_option linter.unusedVariables false
set_option linter.unusedSimpArgs false
set_option maxRecDepth 100000
attribute [local irreducible] Box drawF

def Ix (b : Bool) (r : LV) (σ : Heap) : Prop := ∃ v, r = I v ∧ σ = [] ∧ decide (0 ≤ v) = b

theorem index83 (g : FuncId) (cap : List LV) (p : Hd → Bool) (hs : List Hd) (hl : hs.length ≤ 1152921504606846976) (hg : ∀ h ∈ hs, Pure Try.prog g (h.lv :: cap) (Bo (p h))) :
    LCalls Try.prog 83 [.ro 2 (hs.map Hd.lv), .fn g cap] [] (Ix (hs.any p)) := by
  refine lcalls_go (rts := [.tmp 4]) Try.func83 rfl rfl rfl rfl rfl ?_
  repeat' first
    | refine WC.on mixed rfl ?_
    | (refine new_block fun b hb => ?_; try simp at hb)
    | simp -dsimp []
    | simp -dsimp (disch := omega) only [w64]
    | refine And.intro (by omega) ?_
    | simp -dsimp [*]
    | refine And.intro ?_ ?_
    | intro h
    | done
  refine WC.loop (fun m fr σ => ∃ i : Nat, i ≤ hs.length ∧ m = hs.length - i ∧ σ = [] ∧ (∀ j (hj : j < hs.length), j < i → p hs[j] = false) ∧ fr 0 = .ro 2 (hs.map Hd.lv) ∧ fr 1 = .fn g cap ∧ fr 7 = I hs.length ∧ fr 8 = I i) hs.length ⟨0, by omega, by omega, rfl, by simp, by simp -dsimp []⟩ ?_
  rintro m fr σ ⟨i, hi, rfl, rfl, hbe, k0, k1, k7, k8⟩
  refine WC.on mixed rfl ?_
  simp -dsimp [k0, k1, k7, k8]
  refine WC.on mixed rfl ?_
  simp -dsimp
  refine ⟨fun hlt => ?_, fun hge => ?_⟩
  · have hgi := hg hs[i] (List.getElem_mem hlt)
    cases hp : p hs[i] with
    | true =>
      have hany : hs.any p = true := List.any_eq_true.2 ⟨hs[i], List.getElem_mem hlt, hp⟩
      rw [hp] at hgi
      repeat' first
        | refine WC.on mixed rfl ?_
        | (refine new_block fun b hb => ?_; try simp at hb)
        | refine call_pure hgi ?_
        | simp -dsimp [k0, k1, k7, k8, hlt]
        | simp -dsimp (disch := omega) only [w64]
        | refine And.intro (by omega) ?_
        | simp -dsimp [*]
        | refine And.intro ?_ ?_
        | intro h
        | done
      exact ⟨_, Sub.nil _, i, rfl, rfl, by simp⟩
    | false =>
      rw [hp] at hgi
      repeat' first
        | refine WC.on mixed rfl ?_
        | (refine new_block fun b hb => ?_; try simp at hb)
        | refine call_pure hgi ?_
        | simp -dsimp [k0, k1, k7, k8, hlt]
        | simp -dsimp (disch := omega) only [w64]
        | refine And.intro (by omega) ?_
        | simp -dsimp [*]
        | refine And.intro ?_ ?_
        | intro h
        | done
      refine Round.go (hs.length - (i + 1)) [] (by omega) (Sub.nil _) ⟨i + 1, by omega, rfl, rfl, fun j hj hji => ?_, by simp -dsimp [k0, k1, k7, k8]⟩
      by_cases e : j = i
      · subst e; exact hp
      · exact hbe j hj (by omega)
  · have hany : hs.any p = false := by
      rw [List.any_eq_false]
      intro x hx
      obtain ⟨j, hj, rfl⟩ := List.getElem_of_mem hx
      simp [hbe j hj (by omega)]
    repeat' first
      | refine WC.on mixed rfl ?_
      | (refine new_block fun b hb => ?_; try simp at hb)
      | simp -dsimp [k0, k1, k7, k8]
      | simp -dsimp (disch := omega) only [w64]
      | refine And.intro (by omega) ?_
      | simp -dsimp [*]
      | refine And.intro ?_ ?_
      | intro h
      | done
    exact ⟨_, Sub.nil _, _, rfl, rfl, by simp⟩

theorem contains77 (g : FuncId) (cap : List LV) (p : Hd → Bool) (hs : List Hd) (hl : hs.length ≤ 1152921504606846976) (hg : ∀ h ∈ hs, Pure Try.prog g (h.lv :: cap) (Bo (p h))) :
    Pure Try.prog 77 [.ro 2 (hs.map Hd.lv), .fn g cap] (Bo (hs.any p)) := by
  refine lcalls_go (rts := [.tmp 4]) Try.func77 rfl rfl rfl rfl rfl ?_
  repeat' first
    | refine WC.on mixed rfl ?_
    | (refine new_block fun b hb => ?_; try simp at hb)
    | (refine call_new (index83 g cap p hs hl hg) ?_; rintro _ _ ⟨v, rfl, rfl, hv⟩)
    | simp -dsimp []
    | simp -dsimp (disch := omega) only [w64]
    | refine And.intro (by omega) ?_
    | simp -dsimp [*]
    | refine And.intro ?_ ?_
    | intro h
    | done
  all_goals grind

theorem index82 (g : FuncId) (cap : List LV) (p : Jb → Bool) (hs : List Jb) (hl : hs.length ≤ 1152921504606846976) (hg : ∀ h ∈ hs, Pure Try.prog g (h.lv :: cap) (Bo (p h))) :
    LCalls Try.prog 82 [.ro 7 (hs.map Jb.lv), .fn g cap] [] (Ix (hs.any p)) := by
  refine lcalls_go (rts := [.tmp 4]) Try.func82 rfl rfl rfl rfl rfl ?_
  repeat' first
    | refine WC.on mixed rfl ?_
    | (refine new_block fun b hb => ?_; try simp at hb)
    | simp -dsimp []
    | simp -dsimp (disch := omega) only [w64]
    | refine And.intro (by omega) ?_
    | simp -dsimp [*]
    | refine And.intro ?_ ?_
    | intro h
    | done
  refine WC.loop (fun m fr σ => ∃ i : Nat, i ≤ hs.length ∧ m = hs.length - i ∧ σ = [] ∧ (∀ j (hj : j < hs.length), j < i → p hs[j] = false) ∧ fr 0 = .ro 7 (hs.map Jb.lv) ∧ fr 1 = .fn g cap ∧ fr 7 = I hs.length ∧ fr 8 = I i) hs.length ⟨0, by omega, by omega, rfl, by simp, by simp -dsimp []⟩ ?_
  rintro m fr σ ⟨i, hi, rfl, rfl, hbe, k0, k1, k7, k8⟩
  refine WC.on mixed rfl ?_
  simp -dsimp [k0, k1, k7, k8]
  refine WC.on mixed rfl ?_
  simp -dsimp
  refine ⟨fun hlt => ?_, fun hge => ?_⟩
  · have hgi := hg hs[i] (List.getElem_mem hlt)
    cases hp : p hs[i] with
    | true =>
      have hany : hs.any p = true := List.any_eq_true.2 ⟨hs[i], List.getElem_mem hlt, hp⟩
      rw [hp] at hgi
      repeat' first
        | refine WC.on mixed rfl ?_
        | (refine new_block fun b hb => ?_; try simp at hb)
        | refine call_pure hgi ?_
        | simp -dsimp [k0, k1, k7, k8, hlt]
        | simp -dsimp (disch := omega) only [w64]
        | refine And.intro (by omega) ?_
        | simp -dsimp [*]
        | refine And.intro ?_ ?_
        | intro h
        | done
      exact ⟨_, Sub.nil _, i, rfl, rfl, by simp⟩
    | false =>
      rw [hp] at hgi
      repeat' first
        | refine WC.on mixed rfl ?_
        | (refine new_block fun b hb => ?_; try simp at hb)
        | refine call_pure hgi ?_
        | simp -dsimp [k0, k1, k7, k8, hlt]
        | simp -dsimp (disch := omega) only [w64]
        | refine And.intro (by omega) ?_
        | simp -dsimp [*]
        | refine And.intro ?_ ?_
        | intro h
        | done
      refine Round.go (hs.length - (i + 1)) [] (by omega) (Sub.nil _) ⟨i + 1, by omega, rfl, rfl, fun j hj hji => ?_, by simp -dsimp [k0, k1, k7, k8]⟩
      by_cases e : j = i
      · subst e; exact hp
      · exact hbe j hj (by omega)
  · have hany : hs.any p = false := by
      rw [List.any_eq_false]
      intro x hx
      obtain ⟨j, hj, rfl⟩ := List.getElem_of_mem hx
      simp [hbe j hj (by omega)]
    repeat' first
      | refine WC.on mixed rfl ?_
      | (refine new_block fun b hb => ?_; try simp at hb)
      | simp -dsimp [k0, k1, k7, k8]
      | simp -dsimp (disch := omega) only [w64]
      | refine And.intro (by omega) ?_
      | simp -dsimp [*]
      | refine And.intro ?_ ?_
      | intro h
      | done
    exact ⟨_, Sub.nil _, _, rfl, rfl, by simp⟩

theorem contains75 (g : FuncId) (cap : List LV) (p : Jb → Bool) (hs : List Jb) (hl : hs.length ≤ 1152921504606846976) (hg : ∀ h ∈ hs, Pure Try.prog g (h.lv :: cap) (Bo (p h))) :
    Pure Try.prog 75 [.ro 7 (hs.map Jb.lv), .fn g cap] (Bo (hs.any p)) := by
  refine lcalls_go (rts := [.tmp 4]) Try.func75 rfl rfl rfl rfl rfl ?_
  repeat' first
    | refine WC.on mixed rfl ?_
    | (refine new_block fun b hb => ?_; try simp at hb)
    | (refine call_new (index82 g cap p hs hl hg) ?_; rintro _ _ ⟨v, rfl, rfl, hv⟩)
    | simp -dsimp []
    | simp -dsimp (disch := omega) only [w64]
    | refine And.intro (by omega) ?_
    | simp -dsimp [*]
    | refine And.intro ?_ ?_
    | intro h
    | done
  all_goals grind

theorem bad78 (h : Hd) : Pure Try.prog 78 [h.lv] (Bo (!decide (validH h))) := by
  refine lcalls_go (rts := [.tmp 2]) Try.func78 rfl rfl rfl rfl rfl ?_
  repeat' first
    | refine WC.on mixed rfl ?_
    | (refine new_block fun b hb => ?_; try simp at hb)
    | refine call_pure (within74 _ _ _) ?_
    | simp -dsimp []
    | simp -dsimp (disch := omega) only [w64]
    | refine And.intro (by omega) ?_
    | simp -dsimp [*]
    | refine And.intro ?_ ?_
    | intro h
    | done
  all_goals grind [validH]

theorem uses81 (h : Hd) (r : Int) : Pure Try.prog 81 [h.lv, .adr [I r]] (Bo (decide (h.re = r))) := by
  refine lcalls_go (rts := [.tmp 3]) Try.func81 rfl rfl rfl rfl rfl ?_
  repeat' first
    | refine WC.on mixed rfl ?_
    | (refine new_block fun b hb => ?_; try simp at hb)
    | simp -dsimp []
    | simp -dsimp (disch := omega) only [w64]
    | refine And.intro (by omega) ?_
    | simp -dsimp [*]
    | refine And.intro ?_ ?_
    | intro h
    | done

theorem any_validH (j : Jb) : (j.se.any fun h => !decide (validH h)) = !decide (∀ h ∈ j.se, validH h) := by
  rw [Bool.eq_iff_iff]
  simp
set_option maxHeartbeats 1000000 in
theorem bad76 (j : Jb) (hl : j.se.length ≤ 1152921504606846976) : Pure Try.prog 76 [j.lv] (Bo (!decide (validJ j))) := by
  have ha := any_validH j
  refine lcalls_go (rts := [.tmp 2]) Try.func76 rfl rfl rfl rfl rfl ?_
  repeat' first
    | refine WC.on mixed rfl ?_
    | (refine new_block fun b hb => ?_; try simp at hb)
    | refine call_pure (within74 _ _ _) ?_
    | refine call_pure (contains77 78 [] (fun h => !decide (validH h)) j.se hl fun h _ => bad78 h) ?_
    | simp -dsimp []
    | simp -dsimp (disch := omega) only [w64]
    | refine And.intro (by omega) ?_
    | simp -dsimp [*]
    | refine And.intro ?_ ?_
    | intro h
    | done
  all_goals grind [validJ, validN]
end Go.Proofs.Ytjamehpnclkjdaa
