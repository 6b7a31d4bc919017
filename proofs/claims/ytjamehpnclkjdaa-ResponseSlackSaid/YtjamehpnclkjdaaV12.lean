/- The law ResponseSlack, whole. It bears no statement of its own. -/
import Derived.Test.YtjamehpnclkjdaaS15
import Derived.Test.YtjamehpnclkjdaaS16
namespace Go.Proofs.Ytjamehpnclkjdaa
open Go Go.Ls
set_option linter.unusedVariables false
set_option linter.unusedSimpArgs false
set_option maxRecDepth 100000
attribute [local irreducible] Box drawF

theorem slack_new (l : List Jb) (x : Rt) (i ins miss : Int) (hl : Fit l) : LCalls Try.prog 41 [.ro 7 (l.map Jb.lv), x.lv, I ins, I miss, I i] [] fun r σ => SlackR l x ins miss i r [] ∧ σ = [] :=
  (slack41 l x i ins miss hl).seen fun r σ h => ⟨r, [], View.of_sub (Sub.nil _), h, rfl⟩
set_option maxHeartbeats 4000000 in
theorem law12 (ls : List Int) (p : Int) (hl : ls.length ≤ 1152921504606846976) : LCalls Try.prog 12 [.ro 1 (ls.map I), I p] [] fun r σ => r = Bo true := by
  refine lcalls_go (rts := [.tmp 4]) Try.func12 rfl rfl rfl rfl rfl ?_
  refine WC.on mixed rfl ?_
  repeat' first
    | (refine new_block fun b hb => ?_; try simp at hb)
    | (refine call_new (new16 _) ?_; rintro _ _ ⟨b, rfl, rfl⟩)
    | (refine next_a (n := 3) hl (by first | assumption | exact Nat.zero_le _) (by omega) (by omega) trivial fun a v ha h0 h1 => ?_)
    | (refine call_split [(dk _, deck ls _)] [] (List.Perm.refl _) (fun _ _ => trivial) (jobsC ls _ _ _ (by assumption) hl (by omega) (by omega)) ?_; rintro _ _ ⟨a2, js, c, room, ha2, hjs, rfl, rfl⟩)
    | (refine call_split [(dk _, deck ls _)] [_] (List.Perm.refl _) (fun _ _ => trivial) (rates23 ls _ _ (by assumption) hl) ?_; rintro _ _ ⟨x, a3, ha3, rfl, hxo, rfl⟩)
    | simp -dsimp []
    | simp -dsimp (disch := omega) only [w64]
    | refine And.intro (by omega) ?_
    | simp -dsimp [*]
    | refine And.intro ?_ ?_
    | intro h
    | done
  refine WC.on mixed rfl ?_
  repeat' first
    | (refine new_block fun b hb => ?_; try simp at hb)
    | (refine call_new (new16 _) ?_; rintro _ _ ⟨b, rfl, rfl⟩)
    | (refine next_a (n := 3) hl (by first | assumption | exact Nat.zero_le _) (by omega) (by omega) trivial fun a v ha h0 h1 => ?_)
    | (refine call_split [(dk _, deck ls _)] [] (List.Perm.refl _) (fun _ _ => trivial) (jobsC ls _ _ _ (by assumption) hl (by omega) (by omega)) ?_; rintro _ _ ⟨a2, js, c, room, ha2, hjs, rfl, rfl⟩)
    | (refine call_split [(dk _, deck ls _)] [_] (List.Perm.refl _) (fun _ _ => trivial) (rates23 ls _ _ (by assumption) hl) ?_; rintro _ _ ⟨x, a3, ha3, rfl, hxo, rfl⟩)
    | simp -dsimp []
    | simp -dsimp (disch := omega) only [w64]
    | refine And.intro (by omega) ?_
    | simp -dsimp [*]
    | refine And.intro ?_ ?_
    | intro h
    | done
  refine WC.on mixed rfl ?_
  repeat' first
    | (refine new_block fun b hb => ?_; try simp at hb)
    | (refine call_new (new16 _) ?_; rintro _ _ ⟨b, rfl, rfl⟩)
    | (refine next_a (n := 3) hl (by first | assumption | exact Nat.zero_le _) (by omega) (by omega) trivial fun a v ha h0 h1 => ?_)
    | (refine call_split [(dk _, deck ls _)] [] (List.Perm.refl _) (fun _ _ => trivial) (jobsC ls _ _ _ (by assumption) hl (by omega) (by omega)) ?_; rintro _ _ ⟨a2, js, c, room, ha2, hjs, rfl, rfl⟩)
    | (refine call_split [(dk _, deck ls _)] [_] (List.Perm.refl _) (fun _ _ => trivial) (rates23 ls _ _ (by assumption) hl) ?_; rintro _ _ ⟨x, a3, ha3, rfl, hxo, rfl⟩)
    | simp -dsimp []
    | simp -dsimp (disch := omega) only [w64]
    | refine And.intro (by omega) ?_
    | simp -dsimp [*]
    | refine And.intro ?_ ?_
    | intro h
    | done
  obtain ⟨b1, hb1⟩ : ∃ b1, b1 = b := ⟨b, rfl⟩
  subst hb1
  have hjl := hjs.1
  have hn : (1 + v).toNat ≤ 3 := by omega
  have hn1 : 1 ≤ (1 + v).toNat := by omega
  have hf := hjs.fit (by omega)
  have hl0 := hf.1
  have hc := okC_of (ins := 9) (miss := 7) hjs (by omega) hxo (by omega) (by omega)
  obtain ⟨hv, hvx, hin, hm⟩ := id hc
  have hx := hxo.small
  have hV := allV_ok hc
  refine WC.view 6 (y := .ro 7 (js.map Jb.lv)) (τ := [(⟨b1, 6, 6⟩, [x.lv])]) (by simpa -dsimp using View.lit rfl (by rw [List.length_map]; exact hjl.symm) (Jb.ones js) (Sub.pick [_, _] (Sub.cons _ (Sub.nil _)))) ?_
  have m0 := Int.emod_nonneg p (b := js.length) (by omega)
  have m1 := Int.emod_lt_of_pos p (b := js.length) (by omega)
  obtain ⟨k, hk⟩ := Int.eq_ofNat_of_zero_le m0
  have hkl : k < js.length := by omega
  have hco := (hv.get hkl).1.2.2.2.2.1
  refine WC.on mixed rfl ?_
  repeat' first
    | (refine new_block fun b hb => ?_; try simp at hb)
    | refine call_pure (mod25 _ _ (by omega) (by omega)) ?_
    | simp -dsimp [hk]
    | simp -dsimp (disch := omega) only [w64]
    | refine And.intro (by omega) ?_
    | simp -dsimp [*]
    | refine And.intro ?_ ?_
    | intro h
    | done
  have hS : ∀ r, SlackR js x 9 7 k r [] → if fitB js x 9 7 k 0 = true then ∃ n, r = .tup [I n, I 0] ∧ 0 ≤ n ∧ n ≤ 16777216 ∧ fitB js x 9 7 k n = true ∧ fitB js x 9 7 k (n + 1) = false else r = .tup [I 0, I 38] := fun r h => by
    unfold SlackR at h
    rwa [if_pos ⟨hc, by omega, by omega⟩, Int.toNat_natCast] at h
  cases h0 : fitB js x 9 7 k 0 with
  | false =>
    repeat' first
      | refine WC.on mixed rfl ?_
      | (refine new_block fun b hb => ?_; try simp at hb)
      | (refine call_new (slack_new js x k 9 7 hf) ?_; rintro _ _ ⟨h, rfl⟩; have h := hS _ h; simp [h0] at h; subst h)
      | refine call_pure awake34 ?_
      | simp -dsimp []
      | simp -dsimp (disch := omega) only [w64]
      | refine And.intro (by omega) ?_
      | simp -dsimp [*]
      | refine And.intro ?_ ?_
      | intro h
      | done
    all_goals exact ⟨_, Sub.nil _⟩
  | true =>
    refine WC.on mixed rfl ?_
    repeat' first
      | (refine new_block fun b hb => ?_; try simp at hb)
      | (refine call_new (slack_new js x k 9 7 hf) ?_; rintro _ _ ⟨h, rfl⟩; have h := hS _ h; simp [h0] at h; obtain ⟨n, rfl, n0, n1, n2, n3⟩ := h)
      | simp -dsimp []
      | simp -dsimp (disch := omega) only [w64]
      | refine And.intro (by omega) ?_
      | simp -dsimp [*]
      | refine And.intro ?_ ?_
      | intro h
      | done
    have hil := rse_len js k (js[k].co + n)
    rw [fitB_eq hkl, decide_eq_true_eq] at n2
    rw [fitB_eq hkl, decide_eq_false_iff_not, ← Int.add_assoc] at n3
    have hs0 := rse_set0 hkl (js[k].co + n)
    have hs1 := rse_set hkl (js[k].co + n) (js[k].co + n + 1)
    have hg := rse_get hkl (js[k].co + n) (by simpa using hkl)
    have hil : k < (rse js k (js[k].co + n)).length := by simpa using hkl
    simp only [wcj, Jb.lv] at hs0 hs1
    refine WC.on mixed rfl ?_
    repeat' first
      | (refine new_block fun b hb => ?_; try simp at hb)
      | simp -dsimp []
      | simp -dsimp (disch := omega) only [w64]
      | refine And.intro (by omega) ?_
      | simp -dsimp [*]
      | refine And.intro ?_ ?_
      | intro h
      | done
    refine WC.on mixed rfl ?_
    repeat' first
      | (refine new_block fun b hb => ?_; try simp at hb)
      | simp -dsimp []
      | simp -dsimp (disch := omega) only [w64]
      | refine And.intro (by omega) ?_
      | simp -dsimp [*]
      | refine And.intro ?_ ?_
      | intro h
      | done
    refine WC.on mixed rfl ?_
    repeat' first
      | (refine new_block fun b hb => ?_; try simp at hb)
      | simp -dsimp []
      | simp -dsimp (disch := omega) only [w64]
      | refine And.intro (by omega) ?_
      | simp -dsimp [*]
      | refine And.intro ?_ ?_
      | intro h
      | done
    refine WC.on mixed rfl ?_
    repeat' first
      | (refine new_block fun b hb => ?_; try simp at hb)
      | (refine app_cons ty_sl25 _ (HV.refl _) [] (js.map Jb.lv) [(⟨b1, 6, 6⟩, [x.lv])] (Own.none _ _) (.inl rfl) (Sub.refl _) (fun _ _ e => by cases e) (by simp [maxLen]; omega) (by simp; omega) (by intro h; have h := congrArg List.length h; simp at h; subst h; simp at hkl) fun R room => ?_)
      | simp -dsimp [hkl]
      | simp -dsimp (disch := omega) only [w64]
      | refine And.intro (by omega) ?_
      | simp -dsimp [*]
      | refine And.intro ?_ ?_
      | intro h
      | done
    refine WC.on mixed rfl ?_
    repeat' first
      | (refine new_block fun b hb => ?_; try simp at hb)
      | simp -dsimp [hkl, hs0]
      | simp -dsimp (disch := omega) only [w64]
      | refine And.intro (by omega) ?_
      | simp -dsimp [*]
      | refine And.intro ?_ ?_
      | intro h
      | done
    refine WC.on mixed rfl ?_
    repeat' first
      | (refine new_block fun b hb => ?_; try simp at hb)
      | (refine call_lend [(⟨R, 7, room⟩, (rse js k (js[k].co + n)).map Jb.lv)] [(⟨b1, 6, 6⟩, [x.lv])] (List.Perm.refl _) (fun _ _ => trivial) (ys := [.ro 7 ((rse js k (js[k].co + n)).map Jb.lv), x.lv, I 9, I 7]) ⟨View.lit rfl (by simp [hjl]) (Jb.ones _) (Sub.refl _), View.of_sub (Sub.nil _), View.of_sub (Sub.nil _), View.of_sub (Sub.nil _), trivial⟩ (all38 _ x 9 7 (rse_fit hf _ _)) (fun r σ h => h.plain) ?_; rintro _ σ1 ⟨v1, rfl, hown⟩)
      | simp -dsimp [hkl]
      | simp -dsimp (disch := omega) only [w64]
      | refine And.intro (by omega) ?_
      | simp -dsimp [*]
      | refine And.intro ?_ ?_
      | intro h
      | done
    refine WC.drop (τ := [(⟨R, 7, room⟩, (rse js k (js[k].co + n)).map Jb.lv), (⟨b1, 6, 6⟩, [x.lv])]) (by simpa using Sub.skips σ1) ?_
    clear hown
    refine WC.on mixed rfl ?_
    repeat' first
      | (refine new_block fun b hb => ?_; try simp at hb)
      | simp -dsimp [hkl, hil, hg, wcj, hs1]
      | simp -dsimp (disch := omega) only [w64]
      | refine And.intro (by omega) ?_
      | simp -dsimp [*]
      | refine And.intro ?_ ?_
      | intro h
      | done
    repeat' first
      | refine WC.on mixed rfl ?_
      | (refine new_block fun b hb => ?_; try simp at hb)
      | (refine call_lend [(⟨R, 7, room⟩, (rse js k (js[k].co + n + 1)).map Jb.lv)] [(⟨b1, 6, 6⟩, [x.lv])] (List.Perm.refl _) (fun _ _ => trivial) (ys := [.ro 7 ((rse js k (js[k].co + n + 1)).map Jb.lv), x.lv, I 9, I 7]) ⟨View.lit rfl (by simp [hjl]) (Jb.ones _) (Sub.refl _), View.of_sub (Sub.nil _), View.of_sub (Sub.nil _), View.of_sub (Sub.nil _), trivial⟩ (all38 _ x 9 7 (rse_fit hf _ _)) (fun r σ h => h.plain) ?_; rintro _ σ1 ⟨v1, rfl, hown⟩)
      | refine call_pure awake34 ?_
      | simp -dsimp [hkl, n2, n3]
      | simp -dsimp (disch := omega) only [w64]
      | refine And.intro (by omega) ?_
      | simp -dsimp [*]
      | refine And.intro ?_ ?_
      | intro h
      | done
    all_goals first
      | exact ⟨_, Sub.nil _⟩
      | (exfalso; omega)
end Go.Proofs.Ytjamehpnclkjdaa
