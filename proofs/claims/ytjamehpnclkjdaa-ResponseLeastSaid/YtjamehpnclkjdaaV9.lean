/- The law ResponseLeast, whole. It bears no statement of its own. -/
import Derived.Test.YtjamehpnclkjdaaS15
namespace Go.Proofs.Ytjamehpnclkjdaa
open Go Go.Ls
set_option linter.unusedVariables false
set_option linter.unusedSimpArgs false
set_option maxRecDepth 100000
attribute [local irreducible] Box drawF

set_option maxHeartbeats 4000000 in
theorem law9 (ls : List Int) (p q : Int) (hl : ls.length ≤ 1152921504606846976) : LCalls Try.prog 9 [.ro 1 (ls.map I), I p, I q] [] fun r σ => r = Bo true := by
  refine lcalls_go (rts := [.tmp 6]) Try.func9 rfl rfl rfl rfl rfl ?_
  refine WC.on mixed rfl ?_
  repeat' first
    | (refine new_block fun b hb => ?_; try simp at hb)
    | (refine call_new (new16 _) ?_; rintro _ _ ⟨b, rfl, rfl⟩)
    | (refine next_a (n := 4) hl (by first | assumption | exact Nat.zero_le _) (by omega) (by omega) trivial fun a v ha h0 h1 => ?_)
    | (refine call_split [(dk _, deck ls _)] [] (List.Perm.refl _) (fun _ _ => trivial) (jobsC ls _ _ _ (by assumption) hl (by omega) (by omega)) ?_; rintro _ _ ⟨a2, js, c, room, ha2, hjs, rfl, rfl⟩)
    | (refine call_split [(dk _, deck ls _)] [_] (List.Perm.refl _) (fun _ _ => trivial) (rates23 ls _ _ (by assumption) hl) ?_; rintro _ _ ⟨x, a3, ha3, rfl, hxo, rfl⟩)
    | simp -dsimp []
    | simp -dsimp (disch := omega) only [w64]
    | refine And.intro (by omega) ?_
    | simp -dsimp [*]
    | refine And.intro ?_ ?_
    | intro h
    | done
  refine WC.on mixed rfl ?_
  repeat' first
    | (refine new_block fun b hb => ?_; try simp at hb)
    | (refine call_new (new16 _) ?_; rintro _ _ ⟨b, rfl, rfl⟩)
    | (refine next_a (n := 4) hl (by first | assumption | exact Nat.zero_le _) (by omega) (by omega) trivial fun a v ha h0 h1 => ?_)
    | (refine call_split [(dk _, deck ls _)] [] (List.Perm.refl _) (fun _ _ => trivial) (jobsC ls _ _ _ (by assumption) hl (by omega) (by omega)) ?_; rintro _ _ ⟨a2, js, c, room, ha2, hjs, rfl, rfl⟩)
    | (refine call_split [(dk _, deck ls _)] [_] (List.Perm.refl _) (fun _ _ => trivial) (rates23 ls _ _ (by assumption) hl) ?_; rintro _ _ ⟨x, a3, ha3, rfl, hxo, rfl⟩)
    | simp -dsimp []
    | simp -dsimp (disch := omega) only [w64]
    | refine And.intro (by omega) ?_
    | simp -dsimp [*]
    | refine And.intro ?_ ?_
    | intro h
    | done
  refine WC.on mixed rfl ?_
  repeat' first
    | (refine new_block fun b hb => ?_; try simp at hb)
    | (refine call_new (new16 _) ?_; rintro _ _ ⟨b, rfl, rfl⟩)
    | (refine next_a (n := 4) hl (by first | assumption | exact Nat.zero_le _) (by omega) (by omega) trivial fun a v ha h0 h1 => ?_)
    | (refine call_split [(dk _, deck ls _)] [] (List.Perm.refl _) (fun _ _ => trivial) (jobsC ls _ _ _ (by assumption) hl (by omega) (by omega)) ?_; rintro _ _ ⟨a2, js, c, room, ha2, hjs, rfl, rfl⟩)
    | (refine call_split [(dk _, deck ls _)] [_] (List.Perm.refl _) (fun _ _ => trivial) (rates23 ls _ _ (by assumption) hl) ?_; rintro _ _ ⟨x, a3, ha3, rfl, hxo, rfl⟩)
    | simp -dsimp []
    | simp -dsimp (disch := omega) only [w64]
    | refine And.intro (by omega) ?_
    | simp -dsimp [*]
    | refine And.intro ?_ ?_
    | intro h
    | done
  obtain ⟨b1, hb1⟩ : ∃ b1, b1 = b := ⟨b, rfl⟩
  subst hb1
  have hjl := hjs.1
  have hn : (1 + v).toNat ≤ 4 := by omega
  have hn1 : 1 ≤ (1 + v).toNat := by omega
  have hf := hjs.fit (by omega)
  have hl0 := hf.1
  have hc := okC_of (ins := 9) (miss := 7) hjs (by omega) hxo (by omega) (by omega)
  obtain ⟨hv, hvx, hin, hm⟩ := id hc
  have hx := hxo.small
  have hV := allV_ok hc
  refine WC.view 8 (y := .ro 7 (js.map Jb.lv)) (τ := [(⟨b1, 6, 6⟩, [x.lv])]) (by simpa -dsimp using View.lit rfl (by rw [List.length_map]; exact hjl.symm) (Jb.ones js) (Sub.pick [_, _] (Sub.cons _ (Sub.nil _)))) ?_
  cases hans : ans js x 9 7 with
  | none =>
    rw [hans] at hV
    repeat' first
      | refine WC.on mixed rfl ?_
      | (refine new_block fun b hb => ?_; try simp at hb)
      | (refine call_new (all38 js x 9 7 hf) ?_; rw [hV]; rintro _ _ ⟨v, rfl, hown⟩)
      | refine call_pure awake34 ?_
      | simp -dsimp []
      | simp -dsimp (disch := omega) only [w64]
      | refine And.intro (by omega) ?_
      | simp -dsimp [*]
      | refine And.intro ?_ ?_
      | intro h
      | done
    all_goals exact ⟨_, Sub.nil _⟩
  | some al =>
    rw [hans] at hV
    have hchk := chkV_ans hc hans
    obtain ⟨hal, hfa⟩ := ans_facts hans
    refine WC.on mixed rfl ?_
    repeat' first
      | (refine new_block fun b hb => ?_; try simp at hb)
      | (refine call_new (all38 js x 9 7 hf) ?_; rw [hV]; rintro _ _ ⟨v, rfl, hown⟩)
      | simp -dsimp []
      | simp -dsimp (disch := omega) only [w64]
      | refine And.intro (by omega) ?_
      | simp -dsimp [*]
      | refine And.intro ?_ ?_
      | intro h
      | done
    refine WC.view 10 (y := .ro 2 (al.map An.lv)) (τ := [(⟨b1, 6, 6⟩, [x.lv])]) (by simpa -dsimp using View.own (hown.frame _) (An.ones _)) ?_
    clear hown
    repeat' first
      | refine WC.on mixed rfl ?_
      | (refine new_block fun b hb => ?_; try simp at hb)
      | refine call_pure (check36 js x 9 7 al hf (by omega)) ?_
      | simp -dsimp [hal, hchk]
      | simp -dsimp (disch := omega) only [w64]
      | refine And.intro (by omega) ?_
      | simp -dsimp [*]
      | refine And.intro ?_ ?_
      | intro h
      | done
    refine WC.loop (fun m fr σ => ∃ i : Nat, i ≤ js.length ∧ m = js.length - i ∧ σ = [(⟨b1, 6, 6⟩, [x.lv])] ∧ fr 1 = I p ∧ fr 2 = I q ∧ fr 8 = .ro 7 (js.map Jb.lv) ∧ fr 9 = .ref ⟨b1, 6, 6⟩ 0 0 ∧ fr 10 = .ro 2 (al.map An.lv) ∧ fr 51 = .ro 2 (al.map An.lv) ∧ fr 52 = I js.length ∧ fr 53 = I i) js.length ⟨0, by omega, by omega, rfl,  by (simp -dsimp [hal])⟩ ?_
    rintro m fr σ ⟨i, hi, rfl, rfl, k1, k2, k8, k9, k10, k51, k52, k53⟩
    refine WC.on mixed rfl ?_
    simp -dsimp [k1, k2, k8, k9, k10, k51, k52, k53]
    refine WC.on mixed rfl ?_
    simp -dsimp
    refine ⟨fun hlt => ?_, fun hge => ?_⟩
    · obtain ⟨g1, g2, g3, g4, g5⟩ := hfa i hlt (by omega)
      obtain ⟨⟨j1, j2, j3, j4, j5, j6⟩, _⟩ := hv.get hlt
      have hlt' : i < al.length := by omega
      have m0 := Int.emod_nonneg p (b := al[i].re) (by omega)
      have m1 := Int.emod_lt_of_pos p (b := al[i].re) (by omega)
      have g6 := g5 (p % al[i].re)
      have hpos : 1 ≤ p % al[i].re → ¬ dem js x i 9 7 (p % al[i].re) ≤ p % al[i].re := fun h => by have := g6 h m1; omega
      repeat' first
        | refine WC.on mixed rfl ?_
        | (refine new_block fun b hb => ?_; try simp at hb)
        | refine draw_plan 11 [] [(0, 0), (2, 0), (3, 0), (6, 0), (1, 1), (4, 1), (7, 1), (5, 2), (8, 0), (9, 0), (10, 0), (12, 0), (13, 0), (14, 0), (15, 0), (18, 0), (19, 0), (20, 0), (21, 0), (11, 1), (16, 1), (17, 0), (22, 1), (23, 0), (24, 0)] (by kernel_rfl) rfl ?_
        | refine plan_nil ?_
        | refine plan_none rfl (by simp) ?_
        | refine plan_some rfl rfl (by simp) ?_
        | refine call_pure (demand39 js x i 9 7 _ hf hv hx hlt hin hm (by omega) (by omega)) ?_
        | refine call_pure (mod25 _ _ (by omega) (by omega)) ?_
        | simp -dsimp [k1, k2, k8, k9, k10, k51, k52, k53, hlt, hlt', hal]
        | simp -dsimp (disch := omega) only [w64]
        | refine And.intro (by omega) ?_
        | simp -dsimp [*]
        | refine And.intro ?_ ?_
        | intro h
        | done
      all_goals first
        | (exfalso; omega)
        | (exfalso; exact hpos (by assumption) (by assumption))
        | exact Round.go (js.length - (i + 1)) [(⟨b1, 6, 6⟩, [x.lv])] (by omega) (Sub.skip _ (Sub.refl _)) ⟨i + 1, by omega, rfl, rfl, by simp -dsimp [k1, k2, k8, k9, k10, k51, k52, k53]⟩
    · have m0 := Int.emod_nonneg q (b := js.length) (by omega)
      have m1 := Int.emod_lt_of_pos q (b := js.length) (by omega)
      obtain ⟨k, hk⟩ := Int.eq_ofNat_of_zero_le m0
      have hkl : k < js.length := by omega
      have hkl' : k < al.length := by omega
      have n0 := Int.emod_nonneg p (b := 5) (by omega)
      have n1 := Int.emod_lt_of_pos p (b := 5) (by omega)
      obtain ⟨g1, g2, g3, g4, g5⟩ := hfa k hkl hkl'
      obtain ⟨⟨j1, j2, j3, j4, j5, j6⟩, _⟩ := hv.get hkl
      have hones := An.ones (al.set k ⟨al[k].bl, al[k].re - (1 + p % 5)⟩)
      rw [List.map_set] at hones
      have hless := chkV_less hc hans hkl' (c := 1 + p % 5) (by omega)
      have hck := check36 js x 9 7 (al.set k ⟨al[k].bl, al[k].re - (1 + p % 5)⟩) hf (by rw [List.length_set]; omega)
      rw [hless, List.map_set, g1] at hck
      refine WC.on mixed rfl ?_
      repeat' first
        | (refine new_block fun b hb => ?_; try simp at hb)
        | refine call_pure (mod25 _ _ (by omega) (by omega)) ?_
        | simp -dsimp [k1, k2, k8, k9, k10, k51, k52, k53, hk, hkl, hkl', hal]
        | simp -dsimp (disch := omega) only [w64]
        | refine And.intro (by omega) ?_
        | simp -dsimp [*]
        | refine And.intro ?_ ?_
        | intro h
        | done
      refine WC.on mixed rfl ?_
      repeat' first
        | (refine new_block fun b hb => ?_; try simp at hb)
        | refine call_pure (mod25 _ _ (by omega) (by omega)) ?_
        | simp -dsimp [k1, k2, k8, k9, k10, k51, k52, k53, hk, hkl, hkl', hal]
        | simp -dsimp (disch := omega) only [w64]
        | refine And.intro (by omega) ?_
        | simp -dsimp [*]
        | refine And.intro ?_ ?_
        | intro h
        | done
      refine WC.on mixed rfl ?_
      repeat' first
        | (refine new_block fun b hb => ?_; try simp at hb)
        | (refine app_cons ty_sl52 _ (HV.refl _) [] (al.map An.lv) [(⟨b1, 6, 6⟩, [x.lv])] (Own.none _ _) (.inl rfl) (Sub.refl _) (fun _ _ e => by cases e) (by simp [maxLen]; omega) (by simp; omega) (by intro h; have h := congrArg List.length h; simp at h; subst h; simp at hkl') fun R room => ?_)
        | simp -dsimp [k1, k2, k8, k9, k10, k51, k52, k53, hk, hkl, hkl', hal]
        | simp -dsimp (disch := omega) only [w64]
        | refine And.intro (by omega) ?_
        | simp -dsimp [*]
        | refine And.intro ?_ ?_
        | intro h
        | done
      refine WC.on mixed rfl ?_
      repeat' first
        | (refine new_block fun b hb => ?_; try simp at hb)
        | refine draw_plan 19 [] [(0, 0), (1, 0), (2, 0), (3, 0), (5, 0), (4, 1), (6, 2), (7, 0), (8, 0), (9, 0), (10, 0), (11, 3)] (by kernel_rfl) rfl ?_
        | refine plan_nil ?_
        | refine plan_none rfl (by simp) ?_
        | refine plan_some rfl rfl (by simp) ?_
        | refine call_pure (mod25 _ _ (by omega) (by omega)) ?_
        | simp -dsimp [k1, k2, k8, k9, k10, k51, k52, k53, hk, hkl, hkl', hal]
        | simp -dsimp (disch := omega) only [w64]
        | refine And.intro (by omega) ?_
        | simp -dsimp [*]
        | refine And.intro ?_ ?_
        | intro h
        | done
      refine WC.view 16 (y := .ro 2 ((al.set k ⟨al[k].bl, al[k].re - (1 + p % 5)⟩).map An.lv)) (τ := [(⟨b1, 6, 6⟩, [x.lv])]) (by simp -dsimp; simp -dsimp (disch := omega) only [w64]; exact View.lit rfl (by simp [hal]) hones (Sub.refl _)) ?_
      repeat' first
        | refine WC.on mixed rfl ?_
        | (refine new_block fun b hb => ?_; try simp at hb)
        | refine call_pure hck ?_
        | refine call_pure awake34 ?_
        | simp -dsimp [k1, k2, k8, k9, k10, k51, k52, k53]
        | simp -dsimp (disch := omega) only [w64]
        | refine And.intro (by omega) ?_
        | simp -dsimp [*]
        | refine And.intro ?_ ?_
        | intro h
        | done
      all_goals exact ⟨_, Sub.nil _⟩
end Go.Proofs.Ytjamehpnclkjdaa
