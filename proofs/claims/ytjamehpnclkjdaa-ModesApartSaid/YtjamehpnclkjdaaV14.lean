/- The law ModesApart, whole. It bears no statement of its own. -/
import Derived.Test.YtjamehpnclkjdaaS23
import Derived.Test.YtjamehpnclkjdaaS11
namespace Go.Proofs.Ytjamehpnclkjdaa
open Go Go.Ls
set_option linter.unusedVariables false
set_option linter.unusedSimpArgs false
set_option maxRecDepth 100000
attribute [local irreducible] Box drawF

theorem maxR_aux : ∀ (al : List An) (m : Int), m ≤ al.foldl (fun m a => max m a.re) m ∧ (∀ a ∈ al, a.re ≤ al.foldl (fun m a => max m a.re) m) ∧ (al.foldl (fun m a => max m a.re) m = m ∨ ∃ a ∈ al, a.re = al.foldl (fun m a => max m a.re) m)
  | [], m => ⟨Int.le_refl _, by simp, .inl rfl⟩
  | a :: al, m => by
    obtain ⟨h1, h2, h3⟩ := maxR_aux al (max m a.re)
    simp only [List.foldl_cons]
    refine ⟨by omega, fun b hb => ?_, ?_⟩
    · rcases List.mem_cons.1 hb with rfl | hb
      · omega
      · exact h2 b hb
    · rcases h3 with h3 | ⟨b, hb, h3⟩
      · by_cases e : m ≤ a.re
        · exact .inr ⟨a, List.mem_cons_self, by omega⟩
        · exact .inl (by omega)
      · exact .inr ⟨b, List.mem_cons_of_mem _ hb, h3⟩
theorem maxR_ge {al : List An} {i : Nat} (h : i < al.length) : al[i].re ≤ maxR al := (maxR_aux al 0).2.1 _ (List.getElem_mem h)
theorem maxR_hit {al : List An} (h0 : 0 < al.length) (h : ∀ i (hi : i < al.length), 1 ≤ al[i].re) : (al.any fun a => decide (a.re = maxR al)) = true := by
  rcases (maxR_aux al 0).2.2 with e | ⟨a, ha, e⟩
  · have := maxR_ge h0
    have := h 0 h0
    have e' : maxR al = 0 := e
    omega
  · exact List.any_eq_true.2 ⟨a, ha, decide_eq_true e⟩
theorem any_succ {al : List An} {p : An → Bool} {i : Nat} (h : i < al.length) : (al.take (i + 1)).any p = ((al.take i).any p || p al[i]) := by
  rw [List.take_succ_eq_append_getElem h, List.any_append]
  simp
set_option maxHeartbeats 4000000 in
theorem law14 (ls : List Int) (hl : ls.length ≤ 1152921504606846976) : LCalls Try.prog 14 [.ro 1 (ls.map I)] [] fun r σ => r = Bo true := by
  refine lcalls_go (rts := [.tmp 2]) Try.func14 rfl rfl rfl rfl rfl ?_
  refine WC.on mixed rfl ?_
  repeat' first
    | (refine new_block fun b hb => ?_; try simp at hb)
    | (refine call_new (new16 _) ?_; rintro _ _ ⟨b, rfl, rfl⟩)
    | (refine next_a (n := 3) hl (by first | assumption | exact Nat.zero_le _) (by omega) (by omega) trivial fun a v ha h0 h1 => ?_)
    | (refine call_split [(dk _, deck ls _)] [] (List.Perm.refl _) (fun _ _ => trivial) (jobsC ls _ _ _ (by assumption) hl (by omega) (by omega)) ?_; rintro _ _ ⟨a2, js, c, room, ha2, hjs, rfl, rfl⟩; have hq1 : 1 ≤ js.length ∧ js.length ≤ 3 := (by have := hjs.1; omega))
    | (refine call_split [(dk _, deck ls _)] [_] (List.Perm.refl _) (fun _ _ => trivial) (jobsC ls _ _ _ (by assumption) hl (by omega) (by omega)) ?_; rintro _ _ ⟨a4, js2, c2, room2, ha4, hjs2, rfl, rfl⟩; have hq2 : 1 ≤ js2.length ∧ js2.length ≤ 3 := (by have := hjs2.1; omega))
    | (refine call_split [(dk _, deck ls _)] [_, _] (List.Perm.refl _) (fun _ _ => trivial) (rates23 ls _ _ (by assumption) hl) ?_; rintro _ _ ⟨x, a3, ha3, rfl, hxo, rfl⟩)
    | simp -dsimp []
    | simp -dsimp (disch := omega) only [w64]
    | refine And.intro (by omega) ?_
    | simp -dsimp [*]
    | refine And.intro ?_ ?_
    | intro h
    | done
  refine WC.on mixed rfl ?_
  repeat' first
    | (refine new_block fun b hb => ?_; try simp at hb)
    | (refine call_new (new16 _) ?_; rintro _ _ ⟨b, rfl, rfl⟩)
    | (refine next_a (n := 3) hl (by first | assumption | exact Nat.zero_le _) (by omega) (by omega) trivial fun a v ha h0 h1 => ?_)
    | (refine call_split [(dk _, deck ls _)] [] (List.Perm.refl _) (fun _ _ => trivial) (jobsC ls _ _ _ (by assumption) hl (by omega) (by omega)) ?_; rintro _ _ ⟨a2, js, c, room, ha2, hjs, rfl, rfl⟩; have hq1 : 1 ≤ js.length ∧ js.length ≤ 3 := (by have := hjs.1; omega))
    | (refine call_split [(dk _, deck ls _)] [_] (List.Perm.refl _) (fun _ _ => trivial) (jobsC ls _ _ _ (by assumption) hl (by omega) (by omega)) ?_; rintro _ _ ⟨a4, js2, c2, room2, ha4, hjs2, rfl, rfl⟩; have hq2 : 1 ≤ js2.length ∧ js2.length ≤ 3 := (by have := hjs2.1; omega))
    | (refine call_split [(dk _, deck ls _)] [_, _] (List.Perm.refl _) (fun _ _ => trivial) (rates23 ls _ _ (by assumption) hl) ?_; rintro _ _ ⟨x, a3, ha3, rfl, hxo, rfl⟩)
    | simp -dsimp []
    | simp -dsimp (disch := omega) only [w64]
    | refine And.intro (by omega) ?_
    | simp -dsimp [*]
    | refine And.intro ?_ ?_
    | intro h
    | done
  refine WC.on mixed rfl ?_
  repeat' first
    | (refine new_block fun b hb => ?_; try simp at hb)
    | (refine call_new (new16 _) ?_; rintro _ _ ⟨b, rfl, rfl⟩)
    | (refine next_a (n := 3) hl (by first | assumption | exact Nat.zero_le _) (by omega) (by omega) trivial fun a v ha h0 h1 => ?_)
    | (refine call_split [(dk _, deck ls _)] [] (List.Perm.refl _) (fun _ _ => trivial) (jobsC ls _ _ _ (by assumption) hl (by omega) (by omega)) ?_; rintro _ _ ⟨a2, js, c, room, ha2, hjs, rfl, rfl⟩; have hq1 : 1 ≤ js.length ∧ js.length ≤ 3 := (by have := hjs.1; omega))
    | (refine call_split [(dk _, deck ls _)] [_] (List.Perm.refl _) (fun _ _ => trivial) (jobsC ls _ _ _ (by assumption) hl (by omega) (by omega)) ?_; rintro _ _ ⟨a4, js2, c2, room2, ha4, hjs2, rfl, rfl⟩; have hq2 : 1 ≤ js2.length ∧ js2.length ≤ 3 := (by have := hjs2.1; omega))
    | (refine call_split [(dk _, deck ls _)] [_, _] (List.Perm.refl _) (fun _ _ => trivial) (rates23 ls _ _ (by assumption) hl) ?_; rintro _ _ ⟨x, a3, ha3, rfl, hxo, rfl⟩)
    | simp -dsimp []
    | simp -dsimp (disch := omega) only [w64]
    | refine And.intro (by omega) ?_
    | simp -dsimp [*]
    | refine And.intro ?_ ?_
    | intro h
    | done
  obtain ⟨b1, hb1⟩ : ∃ b1, b1 = b := ⟨b, rfl⟩
  subst hb1
  have hf1 := hjs.fit (by have := hjs.1; omega)
  have hf2 := hjs2.fit (by have := hjs2.1; omega)
  have hl1 := hf1.1
  have hl2 := hf2.1
  have hc1 := okC_of (ins := 9) (miss := 7) hjs (by have := hjs.1; omega) hxo (by omega) (by omega)
  have hc2 := okC_of (ins := 9) (miss := 7) hjs2 (by have := hjs2.1; omega) hxo (by omega) (by omega)
  refine WC.view 4 (y := .ro 7 (js.map Jb.lv)) (τ := [(⟨b1, 6, 6⟩, [x.lv]), (⟨c2, 7, room2⟩, js2.map Jb.lv)]) (by simp -dsimp; exact View.lit rfl (by rw [List.length_map]; exact hjs.1.symm) (Jb.ones js) (Sub.pick [_, _, _] (Sub.cons _ (Sub.skip _ (Sub.refl _))))) ?_
  refine WC.view 5 (y := .ro 7 (js2.map Jb.lv)) (τ := [(⟨b1, 6, 6⟩, [x.lv])]) (by simp -dsimp; exact View.lit rfl (by rw [List.length_map]; exact hjs2.1.symm) (Jb.ones js2) (Sub.pick [_] (Sub.refl _))) ?_
  have hF := feasible46 js js2 x 9 7 hf1 hf2
  by_cases h1 : (allV js x 9 7).1 = 0
  rotate_left
  · have e : feT js js2 x 9 7 = .tup [I 0, I (allV js x 9 7).1] := if_pos h1
    rw [e] at hF
    refine WC.on mixed rfl ?_
    repeat' first
      | (refine new_block fun b hb => ?_; try simp at hb)
      | refine call_pure hF ?_
      | simp -dsimp [h1]
      | simp -dsimp (disch := omega) only [w64]
      | refine And.intro (by omega) ?_
      | simp -dsimp [*]
      | refine And.intro ?_ ?_
      | intro h
      | done
    refine WC.on mixed rfl ?_
    repeat' first
      | (refine new_block fun b hb => ?_; try simp at hb)
      | (refine call_new (all35 js x 9 7 hf1) ?_; rintro _ σ1 ⟨v1, rfl, hown1⟩)
      | simp -dsimp [h1]
      | simp -dsimp (disch := omega) only [w64]
      | refine And.intro (by omega) ?_
      | simp -dsimp [*]
      | refine And.intro ?_ ?_
      | intro h
      | done
    refine WC.drop (τ := [(⟨b1, 6, 6⟩, [x.lv])]) (by simpa using Sub.skips σ1) ?_
    clear hown1
    repeat' first
      | refine WC.on mixed rfl ?_
      | (refine new_block fun b hb => ?_; try simp at hb)
      | (refine call_new (all35 js2 x 9 7 hf2) ?_; rintro _ σ2 ⟨v2, rfl, hown2⟩)
      | refine call_pure awake21 ?_
      | simp -dsimp [h1]
      | simp -dsimp (disch := omega) only [w64]
      | refine And.intro (by omega) ?_
      | simp -dsimp [*]
      | refine And.intro ?_ ?_
      | intro h
      | done
    all_goals exact ⟨_, Sub.nil _⟩
  by_cases h2 : (allV js2 x 9 7).1 = 0
  rotate_left
  · have e : feT js js2 x 9 7 = .tup [I 0, I (allV js2 x 9 7).1] := by unfold feT; rw [if_neg (fun h => h h1), if_pos h2]
    rw [e] at hF
    refine WC.on mixed rfl ?_
    repeat' first
      | (refine new_block fun b hb => ?_; try simp at hb)
      | refine call_pure hF ?_
      | simp -dsimp [h1, h2]
      | simp -dsimp (disch := omega) only [w64]
      | refine And.intro (by omega) ?_
      | simp -dsimp [*]
      | refine And.intro ?_ ?_
      | intro h
      | done
    refine WC.on mixed rfl ?_
    repeat' first
      | (refine new_block fun b hb => ?_; try simp at hb)
      | (refine call_new (all35 js x 9 7 hf1) ?_; rintro _ σ1 ⟨v1, rfl, hown1⟩)
      | simp -dsimp [h1, h2]
      | simp -dsimp (disch := omega) only [w64]
      | refine And.intro (by omega) ?_
      | simp -dsimp [*]
      | refine And.intro ?_ ?_
      | intro h
      | done
    refine WC.drop (τ := [(⟨b1, 6, 6⟩, [x.lv])]) (by simpa using Sub.skips σ1) ?_
    clear hown1
    repeat' first
      | refine WC.on mixed rfl ?_
      | (refine new_block fun b hb => ?_; try simp at hb)
      | (refine call_new (all35 js2 x 9 7 hf2) ?_; rintro _ σ2 ⟨v2, rfl, hown2⟩)
      | refine call_pure awake21 ?_
      | simp -dsimp [h1, h2]
      | simp -dsimp (disch := omega) only [w64]
      | refine And.intro (by omega) ?_
      | simp -dsimp [*]
      | refine And.intro ?_ ?_
      | intro h
      | done
    all_goals exact ⟨_, Sub.nil _⟩
  have e : feT js js2 x 9 7 = .tup [I (maxR (allV js x 9 7).2), I 0] := by unfold feT; rw [if_neg (fun h => h h1), if_neg (fun h => h h2)]
  rw [e] at hF
  obtain ⟨hc, hans⟩ := allV_ok0 h1
  obtain ⟨hal, hfa⟩ := ans_facts hans
  obtain ⟨al, hal0⟩ : ∃ al, (allV js x 9 7).2 = al := ⟨_, rfl⟩
  rw [hal0] at hF hal hans
  simp only [hal0] at hfa
  have hhit := maxR_hit (al := al) (by omega) fun i hi => (hfa i (by omega) hi).2.1
  refine WC.on mixed rfl ?_
  repeat' first
    | (refine new_block fun b hb => ?_; try simp at hb)
    | refine call_pure hF ?_
    | simp -dsimp [h1, h2]
    | simp -dsimp (disch := omega) only [w64]
    | refine And.intro (by omega) ?_
    | simp -dsimp [*]
    | refine And.intro ?_ ?_
    | intro h
    | done
  refine WC.on mixed rfl ?_
  repeat' first
    | (refine new_block fun b hb => ?_; try simp at hb)
    | (refine call_new (all35 js x 9 7 hf1) ?_; rintro _ σ1 ⟨v1, rfl, hown1⟩)
    | simp -dsimp [h1, h2, hal0]
    | simp -dsimp (disch := omega) only [w64]
    | refine And.intro (by omega) ?_
    | simp -dsimp [*]
    | refine And.intro ?_ ?_
    | intro h
    | done
  refine WC.view 9 (y := .ro 2 (al.map An.lv)) (τ := [(⟨b1, 6, 6⟩, [x.lv])]) (by rw [← hal0]; simpa -dsimp using View.own (hown1.frame _) (An.ones _)) ?_
  clear hown1
  refine WC.on mixed rfl ?_
  repeat' first
    | (refine new_block fun b hb => ?_; try simp at hb)
    | (refine call_new (all35 js2 x 9 7 hf2) ?_; rintro _ σ2 ⟨v2, rfl, hown2⟩)
    | simp -dsimp [h1, h2, hal0]
    | simp -dsimp (disch := omega) only [w64]
    | refine And.intro (by omega) ?_
    | simp -dsimp [*]
    | refine And.intro ?_ ?_
    | intro h
    | done
  refine WC.drop (τ := []) (Sub.nil _) ?_
  clear hown2
  repeat' first
    | refine WC.on mixed rfl ?_
    | (refine new_block fun b hb => ?_; try simp at hb)
    | simp -dsimp [h1, h2]
    | simp -dsimp (disch := omega) only [w64]
    | refine And.intro (by omega) ?_
    | simp -dsimp [*]
    | refine And.intro ?_ ?_
    | intro h
    | done
  refine WC.loop (fun m fr σ => ∃ i : Nat, i ≤ al.length ∧ m = al.length - i ∧ σ = [] ∧ fr 7 = I (maxR al) ∧ fr 8 = I 0 ∧ fr 13 = Bo ((al.take i).any fun a => decide (a.re = maxR al)) ∧ fr 64 = .ro 2 (al.map An.lv) ∧ fr 65 = I al.length ∧ fr 66 = I i) al.length ⟨0, by omega, by omega, rfl,  by (simp -dsimp [])⟩ ?_
  rintro m fr σ ⟨i, hi, rfl, rfl, k7, k8, k13, k64, k65, k66⟩
  refine WC.on mixed rfl ?_
  simp -dsimp [k7, k8, k13, k64, k65, k66]
  refine WC.on mixed rfl ?_
  simp -dsimp
  refine ⟨fun hlt => ?_, fun hge => ?_⟩
  · have hm := maxR_ge hlt
    have hs := any_succ (p := fun a => decide (a.re = maxR al)) hlt
    cases hb : ((al.take i).any fun a => decide (a.re = maxR al))
    all_goals rw [hb] at hs k13
    all_goals
      repeat' first
        | refine WC.on mixed rfl ?_
        | (refine new_block fun b hb => ?_; try simp at hb)
        | simp -dsimp [k7, k8, k13, k64, k65, k66, hlt]
        | simp -dsimp (disch := omega) only [w64]
        | refine And.intro (by omega) ?_
        | simp -dsimp [*]
        | refine And.intro ?_ ?_
        | intro h
        | done
    all_goals first
      | (exfalso; omega)
      | exact Round.go (al.length - (i + 1)) [] (by omega) (Sub.nil _) ⟨i + 1, by omega, rfl, rfl, by simp -dsimp [hs, k7, k8, k13, k64, k65, k66]⟩
  · have : al.take i = al := List.take_of_length_le hge
    rw [this, hhit] at k13
    repeat' first
      | refine WC.on mixed rfl ?_
      | (refine new_block fun b hb => ?_; try simp at hb)
      | refine call_pure awake21 ?_
      | simp -dsimp [k7, k8, k13, k64, k65, k66]
      | simp -dsimp (disch := omega) only [w64]
      | refine And.intro (by omega) ?_
      | simp -dsimp [*]
      | refine And.intro ?_ ?_
      | intro h
      | done
    all_goals first
      | (exfalso; omega)
      | exact ⟨_, Sub.nil _⟩
end Go.Proofs.Ytjamehpnclkjdaa
