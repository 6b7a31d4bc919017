/- The law ModesParts, whole. It bears no statement of its own. -/
import Derived.Test.YtjamehpnclkjdaaS23
import Derived.Test.YtjamehpnclkjdaaS24
namespace Go.Proofs.Ytjamehpnclkjdaa
open Go Go.Ls
set_option linter.unusedVariables false
set_option linter.unusedSimpArgs false
set_option maxRecDepth 100000
attribute [local irreducible] Box drawF

set_option maxHeartbeats 4000000 in
theorem law3 (ls : List Int) (p q : Int) (hl : ls.length ≤ 1152921504606846976) : LCalls Try.prog 3 [.ro 1 (ls.map I), I p, I q] [] fun r σ => r = Bo true := by
  refine lcalls_go (rts := [.tmp 6]) Try.func3 rfl rfl rfl rfl rfl ?_
  refine WC.on mixed rfl ?_
  repeat' first
    | (refine new_block fun b hb => ?_; try simp at hb)
    | (refine call_new (new16 _) ?_; rintro _ _ ⟨bd, rfl, rfl⟩)
    | (refine next_a (n := 3) hl (by first | assumption | exact Nat.zero_le _) (by omega) (by omega) trivial fun a v ha h0 h1 => ?_)
    | (refine call_split [(dk _, deck ls _)] [] (List.Perm.refl _) (fun _ _ => trivial) (jobsC ls _ _ _ (by assumption) hl (by omega) (by omega)) ?_; rintro _ _ ⟨a2, js, c, room, ha2, hjs, rfl, rfl⟩; have hq1 : 1 ≤ js.length ∧ js.length ≤ 3 := (by have := hjs.1; omega))
    | simp -dsimp []
    | simp -dsimp (disch := omega) only [w64]
    | refine And.intro (by omega) ?_
    | simp -dsimp [*]
    | refine And.intro ?_ ?_
    | intro h
    | done
  refine WC.on mixed rfl ?_
  repeat' first
    | (refine new_block fun b hb => ?_; try simp at hb)
    | (refine call_new (new16 _) ?_; rintro _ _ ⟨bd, rfl, rfl⟩)
    | (refine next_a (n := 3) hl (by first | assumption | exact Nat.zero_le _) (by omega) (by omega) trivial fun a v ha h0 h1 => ?_)
    | (refine call_split [(dk _, deck ls _)] [] (List.Perm.refl _) (fun _ _ => trivial) (jobsC ls _ _ _ (by assumption) hl (by omega) (by omega)) ?_; rintro _ _ ⟨a2, js, c, room, ha2, hjs, rfl, rfl⟩; have hq1 : 1 ≤ js.length ∧ js.length ≤ 3 := (by have := hjs.1; omega))
    | simp -dsimp []
    | simp -dsimp (disch := omega) only [w64]
    | refine And.intro (by omega) ?_
    | simp -dsimp [*]
    | refine And.intro ?_ ?_
    | intro h
    | done
  refine WC.on mixed rfl ?_
  repeat' first
    | (refine new_block fun b hb => ?_; try simp at hb)
    | (refine call_new (new16 _) ?_; rintro _ _ ⟨bd, rfl, rfl⟩)
    | (refine next_a (n := 3) hl (by first | assumption | exact Nat.zero_le _) (by omega) (by omega) trivial fun a v ha h0 h1 => ?_)
    | (refine call_split [(dk _, deck ls _)] [] (List.Perm.refl _) (fun _ _ => trivial) (jobsC ls _ _ _ (by assumption) hl (by omega) (by omega)) ?_; rintro _ _ ⟨a2, js, c, room, ha2, hjs, rfl, rfl⟩; have hq1 : 1 ≤ js.length ∧ js.length ≤ 3 := (by have := hjs.1; omega))
    | simp -dsimp []
    | simp -dsimp (disch := omega) only [w64]
    | refine And.intro (by omega) ?_
    | simp -dsimp [*]
    | refine And.intro ?_ ?_
    | intro h
    | done
  have hf := hjs.fit (by have := hjs.1; omega)
  have hv := hjs.valid (by have := hjs.1; omega)
  have hl0 := hf.1
  refine WC.view 8 (y := .ro 7 (js.map Jb.lv)) (τ := [(dk bd, deck ls a2)]) (by simp -dsimp; exact View.lit rfl (by rw [List.length_map]; exact hjs.1.symm) (Jb.ones js) (Sub.pick [_] (Sub.refl _))) ?_
  refine WC.on mixed rfl ?_
  repeat' first
    | (refine new_block fun b hb => ?_; try simp at hb)
    | (refine call_split [(dk bd, deck ls a2)] [] (List.Perm.refl _) (fun _ _ => trivial) (releases19 ls a2 bd _ js 0 900 ha2 hl hjs (by have := hjs.1; omega) (by omega) (by omega)) ?_; rintro v9 σ ⟨a3, l, ha3, hll, hok, hown⟩)
    | simp -dsimp []
    | simp -dsimp (disch := omega) only [w64]
    | refine And.intro (by omega) ?_
    | simp -dsimp [*]
    | refine And.intro ?_ ?_
    | intro h
    | done
  refine WC.view 9 (y := .ro 3 (l.map Rl.lv)) (τ := [(dk bd, deck ls a3)]) (by simpa -dsimp using View.own hown (Rl.ones l)) ?_
  clear hown
  have r0 := releases20 js l 0 2000 hf hv (by omega)
  by_cases h0 : relV js l 0 2000 = 0
  rotate_left
  · repeat' first
      | refine WC.on mixed rfl ?_
      | (refine new_block fun b hb => ?_; try simp at hb)
      | refine call_pure r0 ?_
      | refine call_pure awake21 ?_
      | simp -dsimp [h0]
      | simp -dsimp (disch := omega) only [w64]
      | refine And.intro (by omega) ?_
      | simp -dsimp [*]
      | refine And.intro ?_ ?_
      | intro h
      | done
    all_goals exact ⟨_, Sub.nil _⟩
  rw [h0] at r0
  repeat' first
    | refine WC.on mixed rfl ?_
    | (refine new_block fun b hb => ?_; try simp at hb)
    | refine call_pure r0 ?_
    | simp -dsimp []
    | simp -dsimp (disch := omega) only [w64]
    | refine And.intro (by omega) ?_
    | simp -dsimp [*]
    | refine And.intro ?_ ?_
    | intro h
    | done
  refine WC.loop (fun m fr σ => ∃ (i a : Nat) (some : List Rl) (ρ : Heap) (v : LV), i ≤ l.length ∧ m = l.length - i ∧ a ≤ ls.length ∧ some.Sublist (l.take i) ∧ Own 3 v (some.map Rl.lv) ρ [] ∧ σ = (dk bd, deck ls a) :: ρ ∧ fr 1 = I p ∧ fr 2 = I q ∧ fr 7 = .ref (dk bd) 0 0 ∧ fr 8 = .ro 7 (js.map Jb.lv) ∧ fr 9 = .ro 3 (l.map Rl.lv) ∧ fr 10 = v ∧ fr 28 = .ro 3 (l.map Rl.lv) ∧ fr 29 = I l.length ∧ fr 30 = I i) l.length
    ⟨0, a3, [], [], _, by omega, by omega, ha3, by simp, Own.none _ _, rfl, by simp -dsimp⟩ ?_
  rintro m fr σ ⟨i, a, some, ρ, v, hi, rfl, ha, hsub, hown, rfl, k1, k2, k7, k8, k9, k10, k28, k29, k30⟩
  have hsl := hsub.length_le
  rw [List.length_take] at hsl
  refine WC.on mixed rfl ?_
  simp -dsimp [k1, k2, k7, k8, k9, k10, k28, k29, k30]
  refine WC.on mixed rfl ?_
  simp -dsimp
  refine ⟨fun hlt => ?_, fun hge => ?_⟩
  · have ht : l.take (i + 1) = l.take i ++ [l[i]] := List.take_succ_eq_append_getElem hlt
    repeat' first
      | refine WC.on mixed rfl ?_
      | (refine new_block fun b hb => ?_; try simp at hb)
      | refine next_b (n := 3) hl (by assumption) (by omega) (by omega) trivial fun a w ha h0 h1 => ?_
      | (refine app_litc (some.map Rl.lv) [_] ty_sl28 rfl rfl ((hown.more _).more _) (Sub.cons _ (Sub.nil _)) (fun _ _ _ => .inl trivial) (by simp [maxLen]; omega) (by simp; omega) (by simp) fun b2 room2 => ?_)
      | simp -dsimp [k1, k2, k7, k8, k9, k10, k28, k29, k30, hlt]
      | simp -dsimp (disch := omega) only [w64]
      | refine And.intro (by omega) ?_
      | simp -dsimp [*]
      | refine And.intro ?_ ?_
      | intro h
      | done
    all_goals first
      | exact Round.go (l.length - (i + 1)) ((dk bd, deck ls _) :: [(⟨b2, 3, room2⟩, some.map Rl.lv ++ [l[i].lv])]) (by omega) (Sub.swap _ _ (Sub.refl _)) ⟨i + 1, _, some ++ [l[i]], _, .msl ⟨b2, 3, room2⟩ 0 (some.length + 1), by omega, rfl, ha, by rw [ht]; exact hsub.append (List.Sublist.refl _), by rw [List.map_append]; exact Own.blk (by simp), rfl, by simp -dsimp [k1, k2, k7, k8, k9, k10, k28, k29, k30]⟩
      | exact Round.go (l.length - (i + 1)) ((dk bd, deck ls _) :: ρ) (by omega) (Sub.cons _ (Sub.skip _ (Sub.refl _))) ⟨i + 1, _, some, ρ, v, by omega, rfl, ha, by rw [ht]; exact hsub.trans (List.sublist_append_left _ _), hown, rfl, by simp -dsimp [k1, k2, k7, k8, k9, k10, k28, k29, k30]⟩
  · have e : l.take i = l := List.take_of_length_le hge
    rw [e] at hsub
    have hs2 := hsub.length_le
    obtain ⟨e1, e2⟩ := rel_parts hv (fun r hr => by
      have h := hok r hr
      rw [← hjs.1] at h
      exact ⟨h.1, by omega⟩) h0 hsub p q
    have r1 := releases20 js l p q hf hv (by omega)
    have r2 := releases20 js some 0 2000 hf hv (by omega)
    rw [e1] at r1
    rw [e2] at r2
    refine WC.on mixed rfl ?_
    simp -dsimp
    refine WC.view 10 (y := .ro 3 (some.map Rl.lv)) (τ := []) (by simp -dsimp [k10]; exact (View.own (hown.more _) (Rl.ones some)).trans (View.of_sub (Sub.nil _))) ?_
    clear hown k10
    repeat' first
      | refine WC.on mixed rfl ?_
      | (refine new_block fun b hb => ?_; try simp at hb)
      | refine call_pure r1 ?_
      | refine call_pure r2 ?_
      | refine call_pure awake21 ?_
      | simp -dsimp [k1, k2, k7, k8, k9, k28, k29, k30]
      | simp -dsimp (disch := omega) only [w64]
      | refine And.intro (by omega) ?_
      | simp -dsimp [*]
      | refine And.intro ?_ ?_
      | intro h
      | done
    all_goals exact ⟨_, Sub.nil _⟩
end Go.Proofs.Ytjamehpnclkjdaa
