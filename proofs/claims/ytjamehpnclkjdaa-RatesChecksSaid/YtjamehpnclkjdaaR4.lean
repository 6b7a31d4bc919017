/- Rates and disturbances that a deck gives. It bears no statement of its own. -/
import Derived.Test.YtjamehpnclkjdaaR3
namespace Go.Proofs.Ytjamehpnclkjdaa
open Go Go.Ls
set_option linter.unusedVariables false
set_option linter.unusedSimpArgs false
set_option maxRecDepth 100000
attribute [local irreducible] Box drawF

section
variable {M : Nat → Prop} {k : LV → Heap → Prop} {t : Tk k} {τ : Heap} {p q s : Blk × List LV} {ls : List Int} {a b : Nat} {n : Int}
theorem next_a (hl : ls.length ≤ 1152921504606846976) (ha : a ≤ ls.length) (h0 : 1 ≤ n) (h1 : n ≤ 1048576) (hM : M b)
    (hk : ∀ (a' : Nat) (v : Int), a' ≤ ls.length → 0 ≤ v → v < n → k (I v) ((dk b, deck ls a') :: τ)) : clH t Try.prog M ((dk b, deck ls a) :: τ) 18 [.ref (dk b) 0 0, I n] := by
  refine call_split [(dk b, deck ls a)] τ (List.Perm.refl _) (fun c hc => ?_) (next18 ls a b n ha hl h0 h1) ?_
  · simp at hc
    exact hc ▸ hM
  · rintro r σ ⟨a', v, h2, rfl, h3, h4, rfl⟩
    exact hk a' v h2 h3 h4
theorem next_b (hl : ls.length ≤ 1152921504606846976) (ha : a ≤ ls.length) (h0 : 1 ≤ n) (h1 : n ≤ 1048576) (hM : M b)
    (hk : ∀ (a' : Nat) (v : Int), a' ≤ ls.length → 0 ≤ v → v < n → k (I v) ((dk b, deck ls a') :: p :: τ)) : clH t Try.prog M (p :: (dk b, deck ls a) :: τ) 18 [.ref (dk b) 0 0, I n] := by
  refine call_split [(dk b, deck ls a)] (p :: τ) (List.Perm.swap _ _ _) (fun c hc => ?_) (next18 ls a b n ha hl h0 h1) ?_
  · simp at hc
    exact hc ▸ hM
  · rintro r σ ⟨a', v, h2, rfl, h3, h4, rfl⟩
    exact hk a' v h2 h3 h4
theorem next_c (hl : ls.length ≤ 1152921504606846976) (ha : a ≤ ls.length) (h0 : 1 ≤ n) (h1 : n ≤ 1048576) (hM : M b)
    (hk : ∀ (a' : Nat) (v : Int), a' ≤ ls.length → 0 ≤ v → v < n → k (I v) ((dk b, deck ls a') :: p :: q :: τ)) : clH t Try.prog M (p :: q :: (dk b, deck ls a) :: τ) 18 [.ref (dk b) 0 0, I n] := by
  refine call_split [(dk b, deck ls a)] (p :: q :: τ) (List.perm_middle (l₁ := [p, q])) (fun c hc => ?_) (next18 ls a b n ha hl h0 h1) ?_
  · simp at hc
    exact hc ▸ hM
  · rintro r σ ⟨a', v, h2, rfl, h3, h4, rfl⟩
    exact hk a' v h2 h3 h4
end

structure RateOk (x : Rt) : Prop where
  di : (x.di = 0 ∧ x.de = 0) ∨ (60 ≤ x.di ∧ x.di < 260 ∧ 0 ≤ x.de ∧ x.de < 8)
  pe : (x.pe = 0 ∧ x.pa = 0) ∨ (80 ≤ x.pe ∧ x.pe < 280 ∧ 0 ≤ x.pa ∧ x.pa < 4)
  wi : (x.wi = 0 ∧ x.er = 0) ∨ (100 ≤ x.wi ∧ x.wi < 300 ∧ 1 ≤ x.er ∧ x.er < 3)
theorem RateOk.small {x : Rt} (h : RateOk x) : Small x := by
  obtain ⟨h1, h2, h3⟩ := h
  constructor <;> omega

theorem rates23 (ls : List Int) (a b : Nat) (ha : a ≤ ls.length) (hl : ls.length ≤ 1152921504606846976) :
    LCalls Try.prog 23 [.ref (dk b) 0 0] [(dk b, deck ls a)] fun r σ => ∃ (x : Rt) (a' : Nat), a' ≤ ls.length ∧ r = x.lv ∧ RateOk x ∧ σ = [(dk b, deck ls a')] := by
  refine lcalls_go (rts := [.cell 2 37]) Try.func23 rfl rfl rfl rfl rfl ?_
  repeat' first
    | refine WC.on mixed rfl ?_
    | (refine new_block fun b hb => ?_; try simp at hb)
    | refine next_a hl (by assumption) (by omega) (by omega) trivial fun a v ha h0 h1 => ?_
    | refine next_b hl (by assumption) (by omega) (by omega) trivial fun a v ha h0 h1 => ?_
    | refine next_c hl (by assumption) (by omega) (by omega) trivial fun a v ha h0 h1 => ?_
    | simp -dsimp []
    | simp -dsimp (disch := omega) only [w64]
    | refine And.intro (by omega) ?_
    | simp -dsimp [*]
    | refine And.intro (fun h => ?_) (fun h => ?_)
    | intro h
    | done
  all_goals refine ⟨_, Sub.cons _ (Sub.nil _), ⟨_, _, _, _, _, _⟩, _, ?_, ⟨rfl, rfl, rfl, rfl, rfl, rfl⟩, ?_, rfl⟩
  all_goals first
    | assumption
    | (constructor <;> simp <;> omega)
end Go.Proofs.Ytjamehpnclkjdaa
