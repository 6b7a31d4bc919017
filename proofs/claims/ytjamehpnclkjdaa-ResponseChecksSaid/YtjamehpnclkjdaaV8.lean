/- The law ResponseChecks, whole. It bears no statement of its own. -/
import Derived.Test.YtjamehpnclkjdaaS19
import Derived.Test.YtjamehpnclkjdaaLr
namespace Go.Proofs.Ytjamehpnclkjdaa
open Go Go.Ls
set_option linter.unusedVariables false
set_option linter.unusedSimpArgs false
set_option maxRecDepth 100000
attribute [local irreducible] Box drawF

theorem set_an (l : List An) (k : Nat) (p q : Int) : (l.map An.lv).set k (.agg [I p, I q]) = (l.set k ⟨p, q⟩).map An.lv := by rw [List.map_set]; rfl
theorem chkV_zero {l : List Jb} {x : Rt} {ins miss : Int} (h : 1 ≤ l.length) : chkV l x ins miss (List.replicate l.length ⟨0, 0⟩) ≠ 0 := by
  unfold chkV
  split
  · rw [if_neg]
    · decide
    · intro hg
      obtain ⟨_, _, h2, _⟩ := hg 0 (by rw [List.length_replicate]; omega)
      simp at h2
  · decide

set_option maxHeartbeats 8000000 in
theorem law8 (raw : List An) (ls : List Int) (p : Int) (hl : ls.length ≤ 1152921504606846976) : LCalls Try.prog 8 [.ro 2 (raw.map An.lv), .ro 1 (ls.map I), I p] [] fun r σ => r = Bo true := by
  by_cases h20 : 20 < raw.length
  · have h20' : (20 : Int) < raw.length := by omega
    refine lcalls_go (rts := [.tmp 6]) Try.func8 rfl rfl rfl rfl rfl ?_
    repeat' first
      | refine WC.on mixed rfl ?_
      | (refine new_block fun b hb => ?_; try simp at hb)
      | refine call_pure awake34 ?_
      | simp -dsimp [h20']
      | simp -dsimp (disch := omega) only [w64]
      | refine And.intro (by omega) ?_
      | simp -dsimp [*]
      | refine And.intro ?_ ?_
      | intro h
      | done
    all_goals exact ⟨_, Sub.nil _⟩
  have h20' : ¬ (20 : Int) < raw.length := by omega
  refine lcalls_go (rts := [.tmp 6]) Try.func8 rfl rfl rfl rfl rfl ?_
  refine WC.on mixed rfl ?_
  repeat' first
    | (refine new_block fun b hb => ?_; try simp at hb)
    | (refine call_new (new16 _) ?_; rintro _ _ ⟨bd, rfl, rfl⟩)
    | (refine next_a (n := 3) hl (by first | assumption | exact Nat.zero_le _) (by omega) (by omega) trivial fun a v ha h0 h1 => ?_)
    | (refine call_split [(dk _, deck ls _)] [] (List.Perm.refl _) (fun _ _ => trivial) (jobsC ls _ _ _ (by assumption) hl (by omega) (by omega)) ?_; rintro _ _ ⟨a2, js, c, room, ha2, hjs, rfl, rfl⟩)
    | (refine call_split [(dk _, deck ls _)] [_] (List.Perm.refl _) (fun _ _ => trivial) (rates23 ls _ _ (by assumption) hl) ?_; rintro _ _ ⟨x, a3, ha3, rfl, hxo, rfl⟩)
    | simp -dsimp [h20']
    | simp -dsimp (disch := omega) only [w64]
    | refine And.intro (by omega) ?_
    | simp -dsimp [*]
    | refine And.intro ?_ ?_
    | intro h
    | done
  refine WC.on mixed rfl ?_
  repeat' first
    | (refine new_block fun b hb => ?_; try simp at hb)
    | (refine call_new (new16 _) ?_; rintro _ _ ⟨bd, rfl, rfl⟩)
    | (refine next_a (n := 3) hl (by first | assumption | exact Nat.zero_le _) (by omega) (by omega) trivial fun a v ha h0 h1 => ?_)
    | (refine call_split [(dk _, deck ls _)] [] (List.Perm.refl _) (fun _ _ => trivial) (jobsC ls _ _ _ (by assumption) hl (by omega) (by omega)) ?_; rintro _ _ ⟨a2, js, c, room, ha2, hjs, rfl, rfl⟩)
    | (refine call_split [(dk _, deck ls _)] [_] (List.Perm.refl _) (fun _ _ => trivial) (rates23 ls _ _ (by assumption) hl) ?_; rintro _ _ ⟨x, a3, ha3, rfl, hxo, rfl⟩)
    | simp -dsimp [h20']
    | simp -dsimp (disch := omega) only [w64]
    | refine And.intro (by omega) ?_
    | simp -dsimp [*]
    | refine And.intro ?_ ?_
    | intro h
    | done
  refine WC.on mixed rfl ?_
  repeat' first
    | (refine new_block fun b hb => ?_; try simp at hb)
    | (refine call_new (new16 _) ?_; rintro _ _ ⟨bd, rfl, rfl⟩)
    | (refine next_a (n := 3) hl (by first | assumption | exact Nat.zero_le _) (by omega) (by omega) trivial fun a v ha h0 h1 => ?_)
    | (refine call_split [(dk _, deck ls _)] [] (List.Perm.refl _) (fun _ _ => trivial) (jobsC ls _ _ _ (by assumption) hl (by omega) (by omega)) ?_; rintro _ _ ⟨a2, js, c, room, ha2, hjs, rfl, rfl⟩)
    | (refine call_split [(dk _, deck ls _)] [_] (List.Perm.refl _) (fun _ _ => trivial) (rates23 ls _ _ (by assumption) hl) ?_; rintro _ _ ⟨x, a3, ha3, rfl, hxo, rfl⟩)
    | simp -dsimp [h20']
    | simp -dsimp (disch := omega) only [w64]
    | refine And.intro (by omega) ?_
    | simp -dsimp [*]
    | refine And.intro ?_ ?_
    | intro h
    | done
  refine WC.on mixed rfl ?_
  repeat' first
    | (refine new_block fun b hb => ?_; try simp at hb)
    | (refine call_new (new16 _) ?_; rintro _ _ ⟨bd, rfl, rfl⟩)
    | (refine next_a (n := 3) hl (by first | assumption | exact Nat.zero_le _) (by omega) (by omega) trivial fun a v ha h0 h1 => ?_)
    | (refine call_split [(dk _, deck ls _)] [] (List.Perm.refl _) (fun _ _ => trivial) (jobsC ls _ _ _ (by assumption) hl (by omega) (by omega)) ?_; rintro _ _ ⟨a2, js, c, room, ha2, hjs, rfl, rfl⟩)
    | (refine call_split [(dk _, deck ls _)] [_] (List.Perm.refl _) (fun _ _ => trivial) (rates23 ls _ _ (by assumption) hl) ?_; rintro _ _ ⟨x, a3, ha3, rfl, hxo, rfl⟩)
    | simp -dsimp [h20']
    | simp -dsimp (disch := omega) only [w64]
    | refine And.intro (by omega) ?_
    | simp -dsimp [*]
    | refine And.intro ?_ ?_
    | intro h
    | done
  refine WC.on mixed rfl ?_
  repeat' first
    | (refine new_block fun b hb => ?_; try simp at hb)
    | (refine call_new (new16 _) ?_; rintro _ _ ⟨bd, rfl, rfl⟩)
    | (refine next_a (n := 3) hl (by first | assumption | exact Nat.zero_le _) (by omega) (by omega) trivial fun a v ha h0 h1 => ?_)
    | (refine call_split [(dk _, deck ls _)] [] (List.Perm.refl _) (fun _ _ => trivial) (jobsC ls _ _ _ (by assumption) hl (by omega) (by omega)) ?_; rintro _ _ ⟨a2, js, c, room, ha2, hjs, rfl, rfl⟩)
    | (refine call_split [(dk _, deck ls _)] [_] (List.Perm.refl _) (fun _ _ => trivial) (rates23 ls _ _ (by assumption) hl) ?_; rintro _ _ ⟨x, a3, ha3, rfl, hxo, rfl⟩)
    | simp -dsimp [h20']
    | simp -dsimp (disch := omega) only [w64]
    | refine And.intro (by omega) ?_
    | simp -dsimp [*]
    | refine And.intro ?_ ?_
    | intro h
    | done
  refine WC.on mixed rfl ?_
  repeat' first
    | (refine new_block fun b hb => ?_; try simp at hb)
    | (refine call_new (new16 _) ?_; rintro _ _ ⟨bd, rfl, rfl⟩)
    | (refine next_a (n := 3) hl (by first | assumption | exact Nat.zero_le _) (by omega) (by omega) trivial fun a v ha h0 h1 => ?_)
    | (refine call_split [(dk _, deck ls _)] [] (List.Perm.refl _) (fun _ _ => trivial) (jobsC ls _ _ _ (by assumption) hl (by omega) (by omega)) ?_; rintro _ _ ⟨a2, js, c, room, ha2, hjs, rfl, rfl⟩)
    | (refine call_split [(dk _, deck ls _)] [_] (List.Perm.refl _) (fun _ _ => trivial) (rates23 ls _ _ (by assumption) hl) ?_; rintro _ _ ⟨x, a3, ha3, rfl, hxo, rfl⟩)
    | simp -dsimp [h20']
    | simp -dsimp (disch := omega) only [w64]
    | refine And.intro (by omega) ?_
    | simp -dsimp [*]
    | refine And.intro ?_ ?_
    | intro h
    | done
  obtain ⟨b1, hb1⟩ : ∃ b1, b1 = b := ⟨b, rfl⟩
  subst hb1
  have hjl := hjs.1
  have hn : (1 + v).toNat ≤ 3 := by omega
  have hn1 : 1 ≤ (1 + v).toNat := by omega
  have hf := hjs.fit (by omega)
  have hl0 := hf.1
  refine WC.view 8 (y := .ro 7 (js.map Jb.lv)) (τ := [(dk bd, deck ls a3), (⟨b1, 6, 6⟩, [x.lv])]) (by simp -dsimp; exact View.lit rfl (by rw [List.length_map]; exact hjl.symm) (Jb.ones js) (Sub.pick [_, _] (Sub.swap _ _ (Sub.refl _)))) ?_
  refine WC.on mixed rfl ?_
  repeat' first
    | (refine new_block fun b hb => ?_; try simp at hb)
    | (refine next_a (n := 10) hl (by assumption) (by omega) (by omega) trivial fun a n ha n0 n1 => ?_)
    | simp -dsimp []
    | simp -dsimp (disch := omega) only [w64]
    | refine And.intro (by omega) ?_
    | simp -dsimp [*]
    | refine And.intro ?_ ?_
    | intro h
    | done
  rename_i a4 mu ha4 m0 m1
  have hc := okC_of (ins := mu) (miss := n) hjs (by omega) hxo (by omega) (by omega)
  refine WC.on mixed rfl ?_
  repeat' first
    | (refine new_block fun b hb => ?_; try simp at hb)
    | (refine call_new (all35 js x mu n hf) ?_; rintro _ _ ⟨v1, rfl, hown⟩)
    | simp -dsimp []
    | simp -dsimp (disch := omega) only [w64]
    | refine And.intro (by omega) ?_
    | simp -dsimp [*]
    | refine And.intro ?_ ?_
    | intro h
    | done
  refine WC.view 12 (y := .ro 2 ((allV js x mu n).2.map An.lv)) (τ := [(dk bd, deck ls a), (⟨b1, 6, 6⟩, [x.lv])]) (by simpa -dsimp using View.own (hown.frame _) (An.ones _)) ?_
  clear hown
  refine WC.cutv (fun fr σ => ∃ (al : List An) (v12 : LV) (σ0 : Heap), al.length = js.length ∧ ((allV js x mu n).1 = 0 ↔ chkV js x mu n al = 0) ∧ σ = σ0 ∧ View σ0 [(dk bd, deck ls a), (⟨b1, 6, 6⟩, [x.lv])] v12 (.ro 2 (al.map An.lv)) ∧ fr 0 = .ro 2 (raw.map An.lv) ∧ fr 2 = I p ∧ fr 7 = .ref (dk bd) 0 0 ∧ fr 8 = .ro 7 (js.map Jb.lv) ∧ fr 9 = .ref ⟨b1, 6, 6⟩ 0 0 ∧ fr 10 = I mu ∧ fr 11 = I n ∧ fr 12 = v12 ∧ fr 13 = I (allV js x mu n).1) ?_ ?_
  · rw [allV_ok hc]
    cases hans : ans js x mu n with
    | some al =>
      repeat' first
        | refine WC.on mixed rfl ?_
        | (refine new_block fun b hb => ?_; try simp at hb)
        | simp -dsimp []
        | simp -dsimp (disch := omega) only [w64]
        | refine And.intro (by omega) ?_
        | simp -dsimp [*]
        | refine And.intro ?_ ?_
        | intro h
        | done
      all_goals exact Midv.go [(dk bd, deck ls a), (⟨b1, 6, 6⟩, [x.lv])] (Sub.refl _) ⟨al, .ro 2 (al.map An.lv), _, (ans_facts hans).1, by simp [chkV_ans hc hans], rfl, View.of_sub (Sub.refl _), by simp -dsimp, by simp -dsimp, by simp -dsimp, by simp -dsimp, by simp -dsimp, by simp -dsimp, by simp -dsimp, by simp -dsimp, by simp -dsimp⟩
    | none =>
      repeat' first
        | refine WC.on mixed rfl ?_
        | (refine new_block fun b hb => ?_; try simp at hb)
        | simp -dsimp []
        | simp -dsimp (disch := omega) only [w64]
        | refine And.intro (by omega) ?_
        | simp -dsimp [*]
        | refine And.intro ?_ ?_
        | intro h
        | done
      all_goals first
        | (simp [maxLen]; omega)
        | exact Midv.go ((⟨b, 2, (1 + v).toNat * 2⟩, (List.replicate js.length (⟨0, 0⟩ : An)).map An.lv) :: [(dk bd, deck ls a), (⟨b1, 6, 6⟩, [x.lv])]) (by rw [List.map_replicate, hjl]; exact Sub.refl _) ⟨List.replicate js.length ⟨0, 0⟩, .msl ⟨b, 2, (1 + v).toNat * 2⟩ 0 (1 + v).toNat, _, by simp, by simp [chkV_zero (l := js) (by omega)], rfl, View.lit rfl (by simp [hjl]) (An.ones _) (Sub.refl _), by simp -dsimp, by simp -dsimp, by simp -dsimp, by simp -dsimp, by simp -dsimp, by simp -dsimp, by simp -dsimp, by simp -dsimp, by simp -dsimp⟩
  rintro fr σ ⟨al, v12, σ0, hal, hkey, rfl, hview, k0, k2, k7, k8, k9, k10, k11, k12, k13⟩
  refine WC.view 12 (y := .ro 2 (al.map An.lv)) (τ := [(dk bd, deck ls a), (⟨b1, 6, 6⟩, [x.lv])]) (by rw [k12]; exact hview) ?_
  clear k12 hview
  refine WC.on mixed rfl ?_
  repeat' first
    | (refine new_block fun b hb => ?_; try simp at hb)
    | (refine app_consn ty_sl52 _ (HV.refl _) [] (al.map An.lv) [(dk bd, deck ls a), (⟨b1, 6, 6⟩, [x.lv])] (Own.none _ _) (.inl rfl) (Sub.refl _) (fun _ _ e => by cases e) (by simp [maxLen]; omega) (by simp; omega) (by intro h; have h := congrArg List.length h; simp at h; subst h; simp at hal; omega) fun R room hR => ?_)
    | simp -dsimp [k0, k2, k7, k8, k9, k10, k11, k13]
    | simp -dsimp (disch := omega) only [w64]
    | refine And.intro (by omega) ?_
    | simp -dsimp [*]
    | refine And.intro ?_ ?_
    | intro h
    | done
  clear hb
  refine WC.on mixed rfl ?_
  repeat' first
    | (refine new_block fun b hb => ?_; try simp at hb)
    | (refine next_b (n := (al.length : Int)) hl (by assumption) (by omega) (by omega) trivial fun a w ha h0 h1 => ?_; obtain ⟨k, rfl⟩ := Int.eq_ofNat_of_zero_le h0)
    | simp -dsimp [k0, k2, k7, k8, k9, k10, k11, k13]
    | simp -dsimp (disch := omega) only [w64]
    | refine And.intro (by omega) ?_
    | simp -dsimp [*]
    | refine And.intro ?_ ?_
    | intro h
    | done
  have hka : k < al.length := by omega
  refine WC.cutv (fun fr σ => ∃ bad : List An, bad.length = al.length ∧ σ = [(⟨R, 2, room⟩, bad.map An.lv), (⟨b1, 6, 6⟩, [x.lv])] ∧ fr 0 = .ro 2 (raw.map An.lv) ∧ fr 8 = .ro 7 (js.map Jb.lv) ∧ fr 9 = .ref ⟨b1, 6, 6⟩ 0 0 ∧ fr 10 = I mu ∧ fr 11 = I n ∧ fr 12 = .ro 2 (al.map An.lv) ∧ fr 13 = I (allV js x mu n).1 ∧ fr 14 = .msl ⟨R, 2, room⟩ 0 al.length) ?_ ?_
  · refine WC.on mixed rfl ?_
    repeat' first
      | (refine new_block fun b hb => ?_; try simp at hb)
      | refine next_a (n := 3) hl (by assumption) (by omega) (by omega) trivial fun a w ha h0 h1 => ?_
      | simp -dsimp [k0, k2, k7, k8, k9, k10, k11, k13, hka]
      | simp -dsimp (disch := omega) only [w64]
      | refine And.intro (by omega) ?_
      | simp -dsimp [*]
      | refine And.intro ?_ ?_
      | intro h
      | done
    have hw : w = 0 ∨ w = 1 ∨ w = 2 := by omega
    refine WC.nodup fun hnd => ?_
    simp at hnd
    have hRb : ¬ R = bd := by omega
    rcases hw with rfl | rfl | rfl
    · repeat' first
        | refine WC.on mixed rfl ?_
        | (refine new_block fun b hb => ?_; try simp at hb)
        | refine draw_plan 13 [bd] [(0, 0), (1, 0), (2, 0), (3, 0), (5, 0), (4, 1), (6, 2), (7, 0), (8, 0), (9, 0), (10, 0), (11, 3)] (by kernel_rfl) rfl ?_
        | refine plan_nil ?_
        | refine plan_none rfl (by simp) ?_
        | refine plan_some rfl rfl (by simp) ?_
        | refine next_a (n := 9) hl (by assumption) (by omega) (by omega) (by simp) fun a d ha h0 h1 => ?_
        | simp -dsimp [k0, k2, k7, k8, k9, k10, k11, k13, hka]
        | simp -dsimp (disch := omega) only [w64]
        | refine And.intro (by omega) ?_
        | simp -dsimp [*]
        | refine And.intro ?_ ?_
        | intro h
        | done
      all_goals
        refine Midv.go [_, _] (Sub.skip _ (Sub.refl _)) ?_
        rw [set_an]
        exact ⟨_, by simp, rfl, by simp -dsimp [k0], by simp -dsimp [k8], by simp -dsimp [k9], by simp -dsimp [k10], by simp -dsimp [k11], by simp -dsimp, by simp -dsimp [k13], by simp -dsimp <;> omega⟩
    · repeat' first
        | refine WC.on mixed rfl ?_
        | (refine new_block fun b hb => ?_; try simp at hb)
        | refine draw_plan 15 [bd] [(0, 0), (1, 0), (2, 0), (3, 0), (5, 0), (4, 1), (6, 2), (7, 0), (8, 0), (9, 0), (10, 0), (11, 3)] (by kernel_rfl) rfl ?_
        | refine plan_nil ?_
        | refine plan_none rfl (by simp) ?_
        | refine plan_some rfl rfl (by simp) ?_
        | refine next_a (n := 3) hl (by assumption) (by omega) (by omega) (by simp) fun a d ha h0 h1 => ?_
        | simp -dsimp [k0, k2, k7, k8, k9, k10, k11, k13, hka]
        | simp -dsimp (disch := omega) only [w64]
        | refine And.intro (by omega) ?_
        | simp -dsimp [*]
        | refine And.intro ?_ ?_
        | intro h
        | done
      all_goals
        refine Midv.go [_, _] (Sub.skip _ (Sub.refl _)) ?_
        rw [set_an]
        exact ⟨_, by simp, rfl, by simp -dsimp [k0], by simp -dsimp [k8], by simp -dsimp [k9], by simp -dsimp [k10], by simp -dsimp [k11], by simp -dsimp, by simp -dsimp [k13], by simp -dsimp <;> omega⟩
    · repeat' first
        | refine WC.on mixed rfl ?_
        | (refine new_block fun b hb => ?_; try simp at hb)
        | simp -dsimp [k0, k2, k7, k8, k9, k10, k11, k13, hka]
        | simp -dsimp (disch := omega) only [w64]
        | refine And.intro (by omega) ?_
        | simp -dsimp [*]
        | refine And.intro ?_ ?_
        | intro h
        | done
      all_goals
        refine Midv.go [_, _] (Sub.skip _ (Sub.refl _)) ?_
        rw [set_an]
        exact ⟨_, by simp, rfl, by simp -dsimp [k0], by simp -dsimp [k8], by simp -dsimp [k9], by simp -dsimp [k10], by simp -dsimp [k11], by simp -dsimp, by simp -dsimp [k13], by simp -dsimp <;> omega⟩
  rintro fr σ ⟨bad, hbl, rfl, k0, k8, k9, k10, k11, k12, k13, k14⟩
  refine WC.view 14 (y := .ro 2 (bad.map An.lv)) (τ := [(⟨b1, 6, 6⟩, [x.lv])]) (by rw [k14]; exact View.lit rfl (by rw [List.length_map, hbl]) (An.ones bad) (Sub.refl _)) ?_
  clear k14
  repeat' first
    | refine WC.on mixed rfl ?_
    | (refine new_block fun b hb => ?_; try simp at hb)
    | simp -dsimp [k0, k8, k9, k10, k11, k12, k13]
    | simp -dsimp (disch := omega) only [w64]
    | refine And.intro (by omega) ?_
    | simp -dsimp [*]
    | refine And.intro ?_ ?_
    | intro h
    | done
  obtain ⟨b2, hb2⟩ : ∃ b2, b2 = b := ⟨b, rfl⟩
  subst hb2
  refine WC.loop (fun m fr σ => ∃ i : Nat, i ≤ 3 ∧ m = 3 - i ∧ σ = [(⟨b2, 1, 3⟩, [.ro 2 (al.map An.lv), .ro 2 (bad.map An.lv), .ro 2 (raw.map An.lv)]), (⟨b1, 6, 6⟩, [x.lv])] ∧ fr 8 = .ro 7 (js.map Jb.lv) ∧ fr 9 = .ref ⟨b1, 6, 6⟩ 0 0 ∧ fr 10 = I mu ∧ fr 11 = I n ∧ fr 12 = .ro 2 (al.map An.lv) ∧ fr 13 = I (allV js x mu n).1 ∧ fr 92 = .msl ⟨b2, 1, 3⟩ 0 3 ∧ fr 93 = I 3 ∧ fr 94 = I i) 3 ⟨0, by omega, by omega, rfl,  by (simp -dsimp [k8, k9, k10, k11, k12, k13])⟩ ?_
  rintro m fr σ ⟨i, hi, rfl, rfl, k8, k9, k10, k11, k12, k13, k92, k93, k94⟩
  refine WC.on mixed rfl ?_
  simp -dsimp [k8, k9, k10, k11, k12, k13, k92, k93, k94]
  refine WC.on mixed rfl ?_
  simp -dsimp
  refine ⟨fun hlt => ?_, fun hge => ?_⟩
  · obtain rfl | rfl | rfl : i = 0 ∨ i = 1 ∨ i = 2 := by omega
    · repeat' first
        | refine WC.on mixed rfl ?_
        | (refine new_block fun b hb => ?_; try simp at hb)
        | refine draw_plan 21 [] [(0, 0), (2, 0), (3, 0), (4, 0), (6, 0), (8, 0), (9, 0), (10, 0), (1, 1), (7, 1), (5, 2), (11, 2), (12, 0)] (by kernel_rfl) rfl ?_
        | refine plan_nil ?_
        | refine plan_none rfl (by simp) ?_
        | refine plan_some rfl rfl (by simp) ?_
        | refine call_pure (check36 js x mu n _ hf (by omega)) ?_
        | refine call_pure (check37 js x mu n _ hf (by omega)) ?_
        | simp -dsimp [k8, k9, k10, k11, k12, k13, k92, k93, k94]
        | simp -dsimp (disch := omega) only [w64]
        | refine And.intro (by omega) ?_
        | refine And.intro ?_ ?_
        | intro h
        | done
      all_goals exact Round.go (3 - (0 + 1)) _ (by omega) (Sub.refl _) ⟨0 + 1, by omega, rfl, rfl, by simp -dsimp [k8, k9, k10, k11, k12, k13, k92, k93, k94]⟩
    · repeat' first
        | refine WC.on mixed rfl ?_
        | (refine new_block fun b hb => ?_; try simp at hb)
        | refine draw_plan 21 [] [(0, 0), (2, 0), (3, 0), (4, 0), (6, 0), (8, 0), (9, 0), (10, 0), (1, 1), (7, 1), (5, 2), (11, 2), (12, 0)] (by kernel_rfl) rfl ?_
        | refine plan_nil ?_
        | refine plan_none rfl (by simp) ?_
        | refine plan_some rfl rfl (by simp) ?_
        | refine call_pure (check36 js x mu n _ hf (by omega)) ?_
        | refine call_pure (check37 js x mu n _ hf (by omega)) ?_
        | simp -dsimp [k8, k9, k10, k11, k12, k13, k92, k93, k94]
        | simp -dsimp (disch := omega) only [w64]
        | refine And.intro (by omega) ?_
        | refine And.intro ?_ ?_
        | intro h
        | done
      all_goals exact Round.go (3 - (1 + 1)) _ (by omega) (Sub.refl _) ⟨1 + 1, by omega, rfl, rfl, by simp -dsimp [k8, k9, k10, k11, k12, k13, k92, k93, k94]⟩
    · repeat' first
        | refine WC.on mixed rfl ?_
        | (refine new_block fun b hb => ?_; try simp at hb)
        | refine draw_plan 21 [] [(0, 0), (2, 0), (3, 0), (4, 0), (6, 0), (8, 0), (9, 0), (10, 0), (1, 1), (7, 1), (5, 2), (11, 2), (12, 0)] (by kernel_rfl) rfl ?_
        | refine plan_nil ?_
        | refine plan_none rfl (by simp) ?_
        | refine plan_some rfl rfl (by simp) ?_
        | refine call_pure (check36 js x mu n _ hf (by omega)) ?_
        | refine call_pure (check37 js x mu n _ hf (by omega)) ?_
        | simp -dsimp [k8, k9, k10, k11, k12, k13, k92, k93, k94]
        | simp -dsimp (disch := omega) only [w64]
        | refine And.intro (by omega) ?_
        | refine And.intro ?_ ?_
        | intro h
        | done
      all_goals exact Round.go (3 - (2 + 1)) _ (by omega) (Sub.refl _) ⟨2 + 1, by omega, rfl, rfl, by simp -dsimp [k8, k9, k10, k11, k12, k13, k92, k93, k94]⟩
  · repeat' first
      | refine WC.on mixed rfl ?_
      | (refine new_block fun b hb => ?_; try simp at hb)
      | refine call_pure (check36 js x mu n _ hf (by omega)) ?_
      | refine call_pure awake34 ?_
      | simp -dsimp [k8, k9, k10, k11, k12, k13, k92, k93, k94, hkey]
      | simp -dsimp (disch := omega) only [w64]
      | refine And.intro (by omega) ?_
      | refine And.intro ?_ ?_
      | intro h
      | done
    all_goals exact ⟨_, Sub.nil _⟩
end Go.Proofs.Ytjamehpnclkjdaa
