/- By how much a cost can be raised, as the document has it; what grows with what. It bears no statement of its own. -/
import Derived.Test.YtjamehpnclkjdaaS16
namespace Go.Proofs.Ytjamehpnclkjdaa
open Go Go.Ls
set_option linter.unusedVariables false
set_option linter.unusedSimpArgs false
set_option maxRecDepth 100000
attribute [local irreducible] Box drawF

set_option maxHeartbeats 2000000 in
theorem slack43 (l : List Jb) (x : Rt) (i ins miss : Int) (hl : Fit l) : LCalls Try.prog 43 [.ro 7 (l.map Jb.lv), x.lv, I ins, I miss, I i] [] (SlackR l x ins miss i) := by
  have hl0 := hl.1
  by_cases hok : okC l x ins miss ∧ 0 ≤ i ∧ i < l.length
  rotate_left
  · have e : SlackR l x ins miss i (.tup [I 0, I 40]) [] := by unfold SlackR; rw [if_neg hok]
    refine lcalls_go (rts := [.tmp 10, .tmp 11]) Try.func43 rfl rfl rfl rfl rfl ?_
    by_cases hc : okC l x ins miss
    · repeat' first
        | refine WC.on mixed rfl ?_
        | (refine new_block fun b hb => ?_; try simp at hb)
        | refine call_pure (good58 l x ins miss hl) ?_
        | simp -dsimp [hc]
        | simp -dsimp (disch := omega) only [w64]
        | refine And.intro (by omega) ?_
        | simp -dsimp [*]
        | refine And.intro ?_ ?_
        | intro h
        | done
      all_goals first
        | (exfalso; exact hok ⟨hc, by omega, by omega⟩)
        | exact ⟨[], Sub.nil _, e⟩
    · repeat' first
        | refine WC.on mixed rfl ?_
        | (refine new_block fun b hb => ?_; try simp at hb)
        | refine call_pure (good58 l x ins miss hl) ?_
        | simp -dsimp [hc]
        | simp -dsimp (disch := omega) only [w64]
        | refine And.intro (by omega) ?_
        | simp -dsimp [*]
        | refine And.intro ?_ ?_
        | intro h
        | done
      all_goals exact ⟨[], Sub.nil _, e⟩
  obtain ⟨hc, hi0, hi1⟩ := id hok
  obtain ⟨i, rfl⟩ := Int.eq_ofNat_of_zero_le hi0
  have hi : i < l.length := by omega
  have hS : ∀ r, SlackR l x ins miss i r [] ↔ if fitB l x ins miss i 0 = true then ∃ n, r = .tup [I n, I 0] ∧ 0 ≤ n ∧ n ≤ 16777216 ∧ fitB l x ins miss i n = true ∧ fitB l x ins miss i (n + 1) = false else r = .tup [I 0, I 38] := fun r => by
    unfold SlackR
    rw [if_pos hok, Int.toNat_natCast]
  have hco := (hc.1.get hi).1.2.2.2.2.1
  have hlen := hc.1.1
  have hV : (allV l x ins miss).1 = 0 ∨ (allV l x ins miss).1 = 38 := by
    unfold allV
    rw [if_pos hc]
    cases ans l x ins miss <;> simp
  refine lcalls_go (rts := [.tmp 10, .tmp 11]) Try.func43 rfl rfl rfl rfl rfl ?_
  refine WC.on mixed rfl ?_
  repeat' first
    | (refine new_block fun b hb => ?_; try simp at hb)
    | refine call_pure (good58 l x ins miss hl) ?_
    | simp -dsimp [hc, hi]
    | simp -dsimp (disch := omega) only [w64]
    | refine And.intro (by omega) ?_
    | simp -dsimp [*]
    | refine And.intro ?_ ?_
    | intro h
    | done
  refine WC.on mixed rfl ?_
  repeat' first
    | (refine new_block fun b hb => ?_; try simp at hb)
    | refine call_pure (good58 l x ins miss hl) ?_
    | simp -dsimp [hc, hi]
    | simp -dsimp (disch := omega) only [w64]
    | refine And.intro (by omega) ?_
    | simp -dsimp [*]
    | refine And.intro ?_ ?_
    | intro h
    | done
  refine WC.on mixed rfl ?_
  repeat' first
    | (refine new_block fun b hb => ?_; try simp at hb)
    | refine call_pure (good58 l x ins miss hl) ?_
    | simp -dsimp [hc, hi]
    | simp -dsimp (disch := omega) only [w64]
    | refine And.intro (by omega) ?_
    | simp -dsimp [*]
    | refine And.intro ?_ ?_
    | intro h
    | done
  refine WC.on mixed rfl ?_
  repeat' first
    | (refine new_block fun b hb => ?_; try simp at hb)
    | refine call_pure (good58 l x ins miss hl) ?_
    | simp -dsimp [hc, hi]
    | simp -dsimp (disch := omega) only [w64]
    | refine And.intro (by omega) ?_
    | simp -dsimp [*]
    | refine And.intro ?_ ?_
    | intro h
    | done
  all_goals try (exfalso; omega)
  have h0 := fitB_zero (x := x) (ins := ins) (miss := miss) hi
  obtain ⟨bx, hbx⟩ : ∃ bx, bx = b := ⟨b, rfl⟩
  subst hbx
  rcases hV with hV | hV
  rotate_left
  · rw [hV] at h0
    have hS' : SlackR l x ins miss i (.tup [I 0, I 38]) [] := by rw [hS, h0]; simp
    repeat' first
      | refine WC.on mixed rfl ?_
      | (refine new_block fun b hb => ?_; try simp at hb)
      | (refine call_new (all35 l x ins miss hl) ?_; rintro _ _ ⟨v, rfl, hown⟩)
      | simp -dsimp [hc, hi, hV]
      | simp -dsimp (disch := omega) only [w64]
      | refine And.intro (by omega) ?_
      | simp -dsimp [*]
      | refine And.intro ?_ ?_
      | intro h
      | done
    all_goals exact ⟨[], Sub.nil _, hS'⟩
  rw [hV] at h0
  have h0 : fitB l x ins miss i 0 = true := by simpa using h0
  refine WC.on mixed rfl ?_
  repeat' first
    | (refine new_block fun b hb => ?_; try simp at hb)
    | (refine call_new (all35 l x ins miss hl) ?_; rintro _ σ1 ⟨v, rfl, hown⟩)
    | simp -dsimp [hc, hi, hV]
    | simp -dsimp (disch := omega) only [w64]
    | refine And.intro (by omega) ?_
    | simp -dsimp [*]
    | refine And.intro ?_ ?_
    | intro h
    | done
  refine WC.drop (τ := [(⟨bx, 6, 6⟩, [x.lv])]) (by simpa using Sub.skips σ1) ?_
  clear hown
  repeat' first
    | refine WC.on mixed rfl ?_
    | (refine new_block fun b hb => ?_; try simp at hb)
    | refine draw_plan 6 [] [(0, 0), (1, 0), (2, 0), (3, 0), (6, 0), (4, 1), (5, 0), (7, 0)] (by kernel_rfl) rfl ?_
    | refine plan_nil ?_
    | refine plan_none rfl (by simp) ?_
    | refine plan_some rfl rfl (by simp) ?_
    | simp -dsimp [hc, hi, hV]
    | simp -dsimp (disch := omega) only [w64]
    | refine And.intro (by omega) ?_
    | simp -dsimp [*]
    | refine And.intro ?_ ?_
    | intro h
    | done
  have hbig := fitB_big (x := x) (ins := ins) (miss := miss) (n := 16777216 - l[i].co + 1) hi (by omega)
  refine WC.loop (fun m fr σ => ∃ lo hg : Int, (0 ≤ lo ∧ lo ≤ hg ∧ hg ≤ 16777216 - l[i].co) ∧ m = (hg - lo).toNat ∧ fitB l x ins miss i lo = true ∧ fitB l x ins miss i (hg + 1) = false ∧ σ = [(⟨bx, 6, 6⟩, [x.lv])] ∧ fr 0 = .ro 7 (l.map Jb.lv) ∧ fr 2 = I ins ∧ fr 3 = I miss ∧ fr 4 = I i ∧ fr 6 = .ref ⟨bx, 6, 6⟩ 0 0 ∧ fr 14 = I lo ∧ fr 15 = I hg) (16777216 - l[i].co - 0).toNat
    ⟨0, 16777216 - l[i].co, by omega, rfl, h0, hbig, rfl, by (simp -dsimp; simp -dsimp (disch := omega) only [w64])⟩ ?_
  rintro m fr σ ⟨lo, hg, ⟨g0, g1, g2⟩, rfl, f0, f1, rfl, k0, k2, k3, k4, k6, k14, k15⟩
  by_cases hgt : lo < hg
  rotate_left
  · have e : hg = lo := by omega
    subst e
    have hS' : SlackR l x ins miss i (.tup [I hg, I 0]) [] := by rw [hS, h0]; simpa using ⟨by omega, by omega, f0, f1⟩
    repeat' first
      | refine WC.on mixed rfl ?_
      | (refine new_block fun b hb => ?_; try simp at hb)
      | simp -dsimp [k0, k2, k3, k4, k6, k14, k15, hgt]
      | simp -dsimp (disch := omega) only [w64]
      | refine And.intro (by omega) ?_
      | simp -dsimp [*]
      | refine And.intro ?_ ?_
      | intro h
      | done
    all_goals first
      | (exfalso; omega)
      | exact ⟨[], Sub.nil _, hS'⟩
  have hmid : (hg - lo + 1).tdiv 2 = (hg - lo + 1) / 2 := Int.tdiv_eq_ediv_of_nonneg (by omega)
  have hs0 := rse_set0 hi (l[i].co + (lo + (hg - lo + 1) / 2))
  simp only [wcj, Jb.lv] at hs0
  have hfe := fitB_eq (x := x) (ins := ins) (miss := miss) (n := lo + (hg - lo + 1) / 2) hi
  cases hf : fitB l x ins miss i (lo + (hg - lo + 1) / 2)
  all_goals rw [hf] at hfe
  all_goals have hfe := hfe.symm
  all_goals simp only [decide_eq_true_eq, decide_eq_false_iff_not] at hfe
  · repeat' first
      | refine WC.on mixed rfl ?_
      | (refine new_block fun b hb => ?_; try simp at hb)
      | (refine app_cons ty_sl25 _ (HV.refl _) [] (l.map Jb.lv) [(⟨bx, 6, 6⟩, [x.lv])] (Own.none _ _) (.inl rfl) (Sub.refl _) (fun _ _ e => by cases e) (by simp [maxLen]; omega) (by simp; omega) (by intro h; simp at h; subst h; simp at hi) fun R room => ?_)
      | (refine call_view [(⟨R, 7, room⟩, (rse l i (l[i].co + ((lo + (hg - lo + 1) / 2)))).map Jb.lv)] [(⟨bx, 6, 6⟩, [x.lv])] (List.Perm.refl _) (fun _ _ => trivial) (ys := [.ro 7 ((rse l i (l[i].co + (lo + (hg - lo + 1) / 2))).map Jb.lv), x.lv, I ins, I miss]) ⟨View.lit rfl (by simp) (Jb.ones _) (Sub.refl _), View.of_sub (Sub.nil _), View.of_sub (Sub.nil _), View.of_sub (Sub.nil _), trivial⟩ (all35 _ x ins miss (rse_fit hl _ _)) ?_; rintro _ σ1 ⟨v1, rfl, hown⟩)
      | simp -dsimp [k0, k2, k3, k4, k6, k14, k15, hgt, hmid, hi, hs0, hfe]
      | simp -dsimp (disch := omega) only [w64]
      | refine And.intro (by omega) ?_
      | refine And.intro ?_ ?_
      | intro h
      | done
    all_goals first
      | (exfalso; omega)
      | exact Round.go _ _ (by omega) (Sub.skips σ1) ⟨lo, lo + (hg - lo + 1) / 2 - 1, by omega, rfl, f0, by rw [Int.sub_add_cancel]; exact hf, rfl, by simp -dsimp [k0, k2, k3, k4, k6, k14, k15]⟩
  · repeat' first
      | refine WC.on mixed rfl ?_
      | (refine new_block fun b hb => ?_; try simp at hb)
      | (refine app_cons ty_sl25 _ (HV.refl _) [] (l.map Jb.lv) [(⟨bx, 6, 6⟩, [x.lv])] (Own.none _ _) (.inl rfl) (Sub.refl _) (fun _ _ e => by cases e) (by simp [maxLen]; omega) (by simp; omega) (by intro h; simp at h; subst h; simp at hi) fun R room => ?_)
      | (refine call_view [(⟨R, 7, room⟩, (rse l i (l[i].co + ((lo + (hg - lo + 1) / 2)))).map Jb.lv)] [(⟨bx, 6, 6⟩, [x.lv])] (List.Perm.refl _) (fun _ _ => trivial) (ys := [.ro 7 ((rse l i (l[i].co + (lo + (hg - lo + 1) / 2))).map Jb.lv), x.lv, I ins, I miss]) ⟨View.lit rfl (by simp) (Jb.ones _) (Sub.refl _), View.of_sub (Sub.nil _), View.of_sub (Sub.nil _), View.of_sub (Sub.nil _), trivial⟩ (all35 _ x ins miss (rse_fit hl _ _)) ?_; rintro _ σ1 ⟨v1, rfl, hown⟩)
      | simp -dsimp [k0, k2, k3, k4, k6, k14, k15, hgt, hmid, hi, hs0, hfe]
      | simp -dsimp (disch := omega) only [w64]
      | refine And.intro (by omega) ?_
      | refine And.intro ?_ ?_
      | intro h
      | done
    all_goals first
      | (exfalso; omega)
      | exact Round.go _ _ (by omega) (Sub.skips σ1) ⟨lo + (hg - lo + 1) / 2, hg, by omega, rfl, hf, f1, rfl, by simp -dsimp [k0, k2, k3, k4, k6, k14, k15]⟩
end Go.Proofs.Ytjamehpnclkjdaa
