/- Valid jobs, as the document has it. It bears no statement of its own. -/
import Derived.Test.YtjamehpnclkjdaaS4
namespace Go.Proofs.Ytjamehpnclkjdaa
open Go Go.Ls
set_option linter.unusedVariables false
set_option linter.unusedSimpArgs false
set_option maxRecDepth 100000
attribute [local irreducible] Box drawF

set_option maxHeartbeats 1000000 in
theorem valid69 (l : List Jb) (hl : Fit l) : Pure Try.prog 69 [.ro 7 (l.map Jb.lv)] (Bo (decide (validL l))) := by
  have hl0 := hl.1
  refine lcalls_go (rts := [.tmp 2]) Try.func69 rfl rfl rfl rfl rfl ?_
  repeat' first
    | refine WC.on mixed rfl ?_
    | (refine new_block fun b hb => ?_; try simp at hb)
    | simp -dsimp []
    | simp -dsimp (disch := omega) only [w64]
    | refine And.intro (by omega) ?_
    | simp -dsimp [*]
    | refine And.intro ?_ ?_
    | intro h
    | done
  refine WC.loop (fun m fr σ => ∃ i : Nat, i ≤ l.length ∧ m = l.length - i ∧ σ = [] ∧ (∀ q (hq : q < l.length), q < i → validJ l[q]) ∧ fr 0 = .ro 7 (l.map Jb.lv) ∧ fr 7 = .ro 7 (l.map Jb.lv) ∧ fr 8 = I l.length ∧ fr 9 = I i) l.length ⟨0, by omega, by omega, rfl, by simp, by (simp -dsimp [])⟩ ?_
  rintro m fr σ ⟨i, hi, rfl, rfl, hbe, k0, k7, k8, k9⟩
  refine WC.on mixed rfl ?_
  simp -dsimp [k0, k7, k8, k9]
  refine WC.on mixed rfl ?_
  simp -dsimp
  refine ⟨fun hlt => ?_, fun hge => ?_⟩
  · have hno : ¬ validJ l[i] → ¬ validL l := fun h h' => h (validL.get h' hlt)
    have hse := hl.2 _ (List.getElem_mem hlt)
    repeat' first
      | refine WC.on mixed rfl ?_
      | (refine new_block fun b hb => ?_; try simp at hb)
      | refine call_pure (within79 _ _ _) ?_
      | simp -dsimp [k0, k7, k8, k9, hlt]
      | simp -dsimp (disch := omega) only [w64]
      | refine And.intro (by omega) ?_
      | simp -dsimp [*]
      | refine And.intro ?_ ?_
      | intro h
      | done
    all_goals try (have hx : ¬ validL l := hno (by grind [validJ, validN]); first | exact hx | exact hx (by assumption) | (simp [hx]; done))
    have hN : validN l[i] := by grind [validN]
    refine WC.drop (τ := []) (Sub.nil _) ?_
    refine WC.loop (fun m fr σ => ∃ q : Nat, q ≤ l[i].se.length ∧ m = l[i].se.length - q ∧ σ = [] ∧ (∀ p (hp : p < l[i].se.length), p < q → validH l[i].se[p]) ∧ fr 0 = .ro 7 (l.map Jb.lv) ∧ fr 7 = .ro 7 (l.map Jb.lv) ∧ fr 8 = I l.length ∧ fr 9 = I i ∧ fr 52 = .ro 2 (l[i].se.map Hd.lv) ∧ fr 53 = I l[i].se.length ∧ fr 54 = I q) l[i].se.length ⟨0, by omega, by omega, rfl, by simp, by (simp -dsimp [k0, k7, k8, k9])⟩ ?_
    rintro m fr σ ⟨q, hq, rfl, rfl, hbq, k0, k7, k8, k9, k52, k53, k54⟩
    refine WC.on mixed rfl ?_
    simp -dsimp [k0, k7, k8, k9, k52, k53, k54]
    refine WC.on mixed rfl ?_
    simp -dsimp
    refine ⟨fun hltq => ?_, fun hgeq => ?_⟩
    · repeat' first
        | refine WC.on mixed rfl ?_
        | (refine new_block fun b hb => ?_; try simp at hb)
        | refine call_pure (within79 _ _ _) ?_
        | simp -dsimp [k0, k7, k8, k9, k52, k53, k54, hltq]
        | simp -dsimp (disch := omega) only [w64]
        | refine And.intro (by omega) ?_
        | simp -dsimp [*]
        | refine And.intro ?_ ?_
        | intro h
        | done
      all_goals first
        | (have hx : ¬ validL l := hno (by intro h; have := h.2 _ (List.getElem_mem hltq); grind [validH]); first | exact hx | exact hx (by assumption) | (simp [hx]; done))
        | (refine Round.go (l[i].se.length - (q + 1)) [] (by omega) (Sub.nil _) ⟨q + 1, by omega, rfl, rfl, fun p hp hpq => ?_, by simp -dsimp [k0, k7, k8, k9, k52, k53, k54]⟩
           by_cases e : p = q
           · subst e; grind [validH]
           · exact hbq p hp (by omega))
    · have hJ : validJ l[i] := ⟨hN, fun h hh => by obtain ⟨p, hp, rfl⟩ := List.getElem_of_mem hh; exact hbq p hp (by omega)⟩
      repeat' first
        | refine WC.on mixed rfl ?_
        | (refine new_block fun b hb => ?_; try simp at hb)
        | simp -dsimp [k0, k7, k8, k9, k52, k53, k54]
        | simp -dsimp (disch := omega) only [w64]
        | refine And.intro (by omega) ?_
        | simp -dsimp [*]
        | refine And.intro ?_ ?_
        | intro h
        | done
      refine Round.go (l.length - (i + 1)) [] (by omega) (Sub.nil _) ⟨i + 1, by omega, rfl, rfl, fun p hp hpi => ?_, by simp -dsimp [k0, k7, k8, k9, k52, k53, k54]⟩
      by_cases e : p = i
      · subst e; exact hJ
      · exact hbe p hp (by omega)
  · have hall : ∀ j ∈ l, validJ j := fun j hj => by obtain ⟨p, hp, rfl⟩ := List.getElem_of_mem hj; exact hbe p hp (by omega)
    repeat' first
      | refine WC.on mixed rfl ?_
      | (refine new_block fun b hb => ?_; try simp at hb)
      | simp -dsimp [k0, k7, k8, k9]
      | simp -dsimp (disch := omega) only [w64]
      | refine And.intro (by omega) ?_
      | simp -dsimp [*]
      | refine And.intro ?_ ?_
      | intro h
      | done
    all_goals grind [validL]
end Go.Proofs.Ytjamehpnclkjdaa
