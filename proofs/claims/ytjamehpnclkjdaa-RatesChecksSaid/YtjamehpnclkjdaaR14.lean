/- The check of a list of disturbances, as the document has it. It bears no statement of its own. -/
import Derived.Test.YtjamehpnclkjdaaR13
import Derived.Test.YtjamehpnclkjdaaLt
namespace Go.Proofs.Ytjamehpnclkjdaa
open Go Go.Ls
set_option linter.unusedVariables false
set_option linter.unusedSimpArgs false
set_option maxRecDepth 100000
attribute [local irreducible] Box drawF

theorem own_swap {v w : LV} {xs ys : List LV} {σ ρ τ : Heap} (h : Own 1 v xs σ ρ) (k : Own 1 w ys ρ τ) : ∃ ρ', Own 1 w ys σ ρ' ∧ Own 1 v xs ρ' τ := by
  rcases h with ⟨rfl, rfl, hp⟩ | ⟨B, hB, rfl, hp⟩
  · exact ⟨τ, k.perm hp, Own.none _ _⟩
  · exact ⟨(B, xs) :: τ, (k.more (B, xs)).perm hp, .inr ⟨B, hB, rfl, List.Perm.refl _⟩⟩
def Own3 (v1 v2 v3 : LV) (x1 x2 x3 : List LV) (ρ : Heap) : Prop := ∃ ρ1 ρ2, Own 1 v1 x1 ρ ρ1 ∧ Own 1 v2 x2 ρ1 ρ2 ∧ Own 1 v3 x3 ρ2 []
theorem own3_at1 {v1 v2 v3 : LV} {x1 x2 x3 : List LV} {ρ : Heap} (h : Own3 v1 v2 v3 x1 x2 x3 ρ) : ∃ ρ', Own 1 v1 x1 ρ ρ' ∧ ∀ w y σ, Own 1 w y σ ρ' → Own3 w v2 v3 y x2 x3 σ := by
  obtain ⟨ρ1, ρ2, h1, h2, h3⟩ := h
  exact ⟨ρ1, h1, fun w y σ hw => ⟨ρ1, ρ2, hw, h2, h3⟩⟩
theorem own3_at2 {v1 v2 v3 : LV} {x1 x2 x3 : List LV} {ρ : Heap} (h : Own3 v1 v2 v3 x1 x2 x3 ρ) : ∃ ρ', Own 1 v2 x2 ρ ρ' ∧ ∀ w y σ, Own 1 w y σ ρ' → Own3 v1 w v3 x1 y x3 σ := by
  obtain ⟨ρ1, ρ2, h1, h2, h3⟩ := h
  obtain ⟨ρ', g1, g2⟩ := own_swap h1 h2
  refine ⟨ρ', g1, fun w y σ hw => ?_⟩
  obtain ⟨ρ'', e1, e2⟩ := own_swap hw g2
  exact ⟨ρ'', ρ2, e1, e2, h3⟩
theorem own3_at3 {v1 v2 v3 : LV} {x1 x2 x3 : List LV} {ρ : Heap} (h : Own3 v1 v2 v3 x1 x2 x3 ρ) : ∃ ρ', Own 1 v3 x3 ρ ρ' ∧ ∀ w y σ, Own 1 w y σ ρ' → Own3 v1 v2 w x1 x2 y σ := by
  obtain ⟨ρ1, ρ2, h1, h2, h3⟩ := h
  obtain ⟨ρ', g1, g2⟩ := own_swap h2 h3
  obtain ⟨ρ'', g3, g4⟩ := own_swap h1 g1
  refine ⟨ρ'', g3, fun w y σ hw => ?_⟩
  obtain ⟨σ1, e1, e2⟩ := own_swap hw g4
  obtain ⟨σ2, e3, e4⟩ := own_swap e2 g2
  exact ⟨σ1, σ2, e1, e3, e4⟩
theorem prevT_pos {l : List Db} {i : Nat} (h : 0 < i) (hi : i - 1 < l.length) : prevT l i = l[i - 1].t := by
  cases i with
  | zero => omega
  | succ q =>
    have hq : q < l.length := by omega
    simp [prevT, hq]
theorem take_times {l : List Db} (h : Times l) (i : Nat) : Times (l.take i) := fun d hd => h d (List.mem_of_mem_take hd)

set_option maxHeartbeats 8000000 in
theorem check29 (x : Rt) (l : List Db) (hl : l.length ≤ 16777216) : Pure Try.prog 29 [x.lv, .ro 5 (l.map Db.lv)] (I (checkV x l)) := by
  by_cases hbad : ¬ validR x ∨ 200 < l.length
  · have e : checkV x l = 10 := if_pos hbad
    rw [e]
    by_cases hv : validR x
    · have hb2 : (200 : Int) < l.length := by rcases hbad with h | h; exact absurd hv h; omega
      refine lcalls_go (rts := [.tmp 4]) Try.func29 rfl rfl rfl rfl rfl ?_
      repeat' first
        | refine WC.on mixed rfl ?_
        | (refine new_block fun b hb => ?_; try simp at hb)
        | refine call_pure (valid27r _) ?_
        | simp -dsimp [hv, hb2]
        | simp -dsimp (disch := omega) only [w64]
        | refine And.intro (by omega) ?_
        | simp -dsimp [*]
        | refine And.intro ?_ ?_
        | intro h
        | done
    · skip
      refine lcalls_go (rts := [.tmp 4]) Try.func29 rfl rfl rfl rfl rfl ?_
      repeat' first
        | refine WC.on mixed rfl ?_
        | (refine new_block fun b hb => ?_; try simp at hb)
        | refine call_pure (valid27r _) ?_
        | simp -dsimp [hv]
        | simp -dsimp (disch := omega) only [w64]
        | refine And.intro (by omega) ?_
        | simp -dsimp [*]
        | refine And.intro ?_ ?_
        | intro h
        | done
  have hv : validR x := Classical.byContradiction fun h => hbad (.inl h)
  have hlen : l.length ≤ 200 := by omega
  have hlen' : ¬ (200 : Int) < l.length := by omega
  have e1 : checkV x l = if formedB l l.length = false then 10 else if apartAll x l then 0 else 39 := if_neg hbad
  rw [e1]
  refine lcalls_go (rts := [.tmp 4]) Try.func29 rfl rfl rfl rfl rfl ?_
  repeat' first
    | refine WC.on mixed rfl ?_
    | (refine new_block fun b hb => ?_; try simp at hb)
    | refine call_pure (valid27r _) ?_
    | simp -dsimp [hv, hlen']
    | simp -dsimp (disch := omega) only [w64]
    | refine And.intro (by omega) ?_
    | simp -dsimp [*]
    | refine And.intro ?_ ?_
    | intro h
    | done
  rename_i bx hbx
  obtain ⟨bA, hbA⟩ : ∃ bA, bA = b := ⟨b, rfl⟩
  subst hbA
  refine WC.loop (fun m fr σ => ∃ (i : Nat) (v1 v2 v3 : LV) (ρ : Heap), i ≤ l.length ∧ m = l.length - i ∧ formedB l i = true ∧ Own3 v1 v2 v3 ((tms (l.take i) 1).map I) ((tms (l.take i) 2).map I) ((tms (l.take i) 3).map I) ρ ∧ σ = (⟨bA, 4, 4⟩, [.agg [.val (.slice none 0 0), v1, v2, v3]]) :: (⟨bx, 6, 6⟩, [x.lv]) :: ρ ∧ fr 1 = .ro 5 (l.map Db.lv) ∧ fr 2 = .ref ⟨bx, 6, 6⟩ 0 0 ∧ fr 5 = .ref ⟨bA, 4, 4⟩ 0 0 ∧ fr 18 = .ro 5 (l.map Db.lv) ∧ fr 19 = I l.length ∧ fr 20 = I i) l.length
    ⟨0, .val (.slice none 0 0), .val (.slice none 0 0), .val (.slice none 0 0), [], by omega, rfl, by simp [formedB], ⟨[], [], Own.none _ _, Own.none _ _, Own.none _ _⟩, rfl, by simp -dsimp⟩ ?_
  rintro m fr σ ⟨i, v1, v2, v3, ρ, hi, rfl, hf, hown, rfl, k1, k2, k5, k18, k19, k20⟩
  by_cases hlt : i < l.length
  · have hs := formedB_succ l i hlt
    have hltI : (i : Int) < l.length := by omega
    have hal : ∀ k, (tms (l.take i) k).length ≤ i := fun k => by have := tms_len (l.take i) k; rw [List.length_take] at this; omega
    refine WC.on mixed rfl ?_
    repeat' first
      | (refine new_block fun b hb => ?_; try simp at hb)
      | simp -dsimp [k1, k2, k5, k18, k19, k20, hlt]
      | simp -dsimp (disch := omega) only [w64]
      | refine And.intro (by omega) ?_
      | refine And.intro ?_ ?_
      | intro h
      | done
    refine WC.on mixed rfl ?_
    repeat' first
      | (refine new_block fun b hb => ?_; try simp at hb)
      | simp -dsimp [k1, k2, k5, k18, k19, k20, hlt]
      | simp -dsimp (disch := omega) only [w64]
      | refine And.intro (by omega) ?_
      | refine And.intro ?_ ?_
      | intro h
      | done
    refine WC.on mixed rfl ?_
    repeat' first
      | (refine new_block fun b hb => ?_; try simp at hb)
      | simp -dsimp [k1, k2, k5, k18, k19, k20, hlt]
      | simp -dsimp (disch := omega) only [w64]
      | refine And.intro (by omega) ?_
      | refine And.intro ?_ ?_
      | intro h
      | done
    refine WC.seq ?_
    refine WC.block ?_
    refine WC.on mixed rfl ?_
    repeat' first
      | (refine new_block fun b hb => ?_; try simp at hb)
      | simp -dsimp [k1, k2, k5, k18, k19, k20, hlt]
      | simp -dsimp (disch := omega) only [w64]
      | refine And.intro (by omega) ?_
      | refine And.intro ?_ ?_
      | intro h
      | done
    obtain ⟨b7, hb7⟩ : ∃ b7, b7 = b := ⟨b, rfl⟩
    subst hb7
    have hno : ¬ formedP l[i] (prevT l i) → formedB l l.length = false := fun hfm => by
      cases hb : formedB l l.length with
      | false => rfl
      | true =>
        have := formedB_le (i := i + 1) hlt hb
        rw [hs, Bool.and_eq_true, decide_eq_true_eq] at this
        exact absurd this.2 hfm
    refine WC.cutv (fun fr σ => ((0 ≤ l[i].t ∧ l[i].t ≤ 16777216) ∧ prevT l i ≤ l[i].t ∧ 1 ≤ l[i].k ∧ l[i].k ≤ 3 ∧ 0 ≤ l[i].s ∧ 0 ≤ l[i].p) ∧ σ = (⟨b7, 5, 5⟩, [l[i].lv]) :: (⟨bA, 4, 4⟩, [.agg [.val (.slice none 0 0), v1, v2, v3]]) :: (⟨bx, 6, 6⟩, [x.lv]) :: ρ ∧ fr 1 = .ro 5 (l.map Db.lv) ∧ fr 2 = .ref ⟨bx, 6, 6⟩ 0 0 ∧ fr 5 = .ref ⟨bA, 4, 4⟩ 0 0 ∧ fr 7 = .ref ⟨b7, 5, 5⟩ 0 0 ∧ fr 18 = .ro 5 (l.map Db.lv) ∧ fr 19 = I l.length ∧ fr 20 = I i) ?_ ?_
    · obtain hi0 | hi0 : i = 0 ∨ 0 < i := by omega
      · have hz : ¬ (0 : Int) < i := by omega
        have hpv : prevT l i = 0 := by subst hi0; rfl
        clear hs hf
        repeat' first
          | refine WC.on mixed rfl ?_
          | (refine new_block fun b hb => ?_; try simp at hb)
          | refine draw_plan 7 [] [(0, 0), (1, 1), (2, 0), (3, 0), (4, 0), (5, 1), (6, 0), (7, 0), (8, 0), (9, 0), (10, 0), (11, 0), (12, 0), (13, 0), (14, 0), (15, 0), (16, 0), (18, 0), (17, 1), (19, 1), (20, 0), (21, 0), (22, 0), (23, 0), (24, 0), (25, 1), (26, 0), (27, 0), (28, 0), (29, 0), (30, 1), (31, 0), (32, 0), (33, 0), (34, 0), (35, 1), (36, 0), (37, 0), (38, 0), (39, 0), (40, 1), (41, 0), (42, 0)] (by kernel_rfl) rfl ?_
          | refine plan_nil ?_
          | refine plan_none rfl (by simp) ?_
          | refine plan_some rfl rfl (by simp) ?_
          | simp -dsimp [k1, k2, k5, k18, k19, k20, hlt, hz]
          | simp -dsimp (disch := omega) only [w64]
          | refine And.intro (by omega) ?_
          | refine And.intro ?_ ?_
          | intro h
          | done
        all_goals first
          | (exfalso; have := hno (by unfold formedP; omega); rw [this] at h; cases h; done)
          | (rw [if_pos (hno (by unfold formedP; omega))]; exact ⟨_, Sub.nil _, rfl⟩)
          | (rw [if_pos (hno (by unfold formedP; omega))]; exact ⟨_, Sub.nil _⟩)
          | exact Midv.go _ (Sub.refl _) ⟨(by omega), rfl, by simp -dsimp [k1], by simp -dsimp [k2], by simp -dsimp [k5], by simp -dsimp, by simp -dsimp [k18], by simp -dsimp [k19], by simp -dsimp [k20]⟩
          | trace_state
      · have hz : (0 : Int) < i := by omega
        have tn : ((i : Int) - 1).toNat = i - 1 := by omega
        have hp1 : i - 1 < l.length := by omega
        have hpv := prevT_pos hi0 hp1
        clear hs hf
        repeat' first
          | refine WC.on mixed rfl ?_
          | (refine new_block fun b hb => ?_; try simp at hb)
          | refine draw_plan 7 [] [(0, 0), (1, 1), (2, 0), (3, 0), (4, 0), (5, 1), (6, 0), (7, 0), (8, 0), (9, 0), (10, 0), (11, 0), (12, 0), (13, 0), (14, 0), (15, 0), (16, 0), (18, 0), (17, 1), (19, 1), (20, 0), (21, 0), (22, 0), (23, 0), (24, 0), (25, 1), (26, 0), (27, 0), (28, 0), (29, 0), (30, 1), (31, 0), (32, 0), (33, 0), (34, 0), (35, 1), (36, 0), (37, 0), (38, 0), (39, 0), (40, 1), (41, 0), (42, 0)] (by kernel_rfl) rfl ?_
          | refine plan_nil ?_
          | refine plan_none rfl (by simp) ?_
          | refine plan_some rfl rfl (by simp) ?_
          | simp -dsimp [k1, k2, k5, k18, k19, k20, hlt, hz, tn, hp1]
          | simp -dsimp (disch := omega) only [w64]
          | refine And.intro (by omega) ?_
          | refine And.intro ?_ ?_
          | intro h
          | done
        all_goals first
          | (exfalso; have := hno (by unfold formedP; omega); rw [this] at h; cases h; done)
          | (rw [if_pos (hno (by unfold formedP; omega))]; exact ⟨_, Sub.nil _, rfl⟩)
          | (rw [if_pos (hno (by unfold formedP; omega))]; exact ⟨_, Sub.nil _⟩)
          | exact Midv.go _ (Sub.refl _) ⟨(by omega), rfl, by simp -dsimp [k1], by simp -dsimp [k2], by simp -dsimp [k5], by simp -dsimp, by simp -dsimp [k18], by simp -dsimp [k19], by simp -dsimp [k20]⟩
          | trace_state
    rintro fr σ ⟨hfo, rfl, k1, k2, k5, k7, k18, k19, k20⟩
    refine WC.cutv (fun fr σ => formedP l[i] (prevT l i) ∧ σ = (⟨b7, 5, 5⟩, [l[i].lv]) :: (⟨bA, 4, 4⟩, [.agg [.val (.slice none 0 0), v1, v2, v3]]) :: (⟨bx, 6, 6⟩, [x.lv]) :: ρ ∧ fr 1 = .ro 5 (l.map Db.lv) ∧ fr 2 = .ref ⟨bx, 6, 6⟩ 0 0 ∧ fr 5 = .ref ⟨bA, 4, 4⟩ 0 0 ∧ fr 7 = .ref ⟨b7, 5, 5⟩ 0 0 ∧ fr 18 = .ro 5 (l.map Db.lv) ∧ fr 19 = I l.length ∧ fr 20 = I i) ?_ ?_
    · clear hs hf
      repeat' first
        | refine WC.on mixed rfl ?_
        | (refine new_block fun b hb => ?_; try simp at hb)
        | simp -dsimp [k1, k2, k5, k18, k19, k20, k7, hlt]
        | simp -dsimp (disch := omega) only [w64]
        | refine And.intro (by omega) ?_
        | refine And.intro ?_ ?_
        | intro h
        | done
      all_goals first
        | (exfalso; have := hno (by unfold formedP; omega); rw [this] at h; cases h; done)
        | (rw [if_pos (hno (by unfold formedP; omega))]; exact ⟨_, Sub.nil _, rfl⟩)
        | (rw [if_pos (hno (by unfold formedP; omega))]; exact ⟨_, Sub.nil _⟩)
        | exact Midv.go _ (Sub.refl _) ⟨(by unfold formedP; omega), rfl, by simp -dsimp [k1], by simp -dsimp [k2], by simp -dsimp [k5], by simp -dsimp [k7], by simp -dsimp [k18], by simp -dsimp [k19], by simp -dsimp [k20]⟩
        | trace_state
    rintro fr σ ⟨hfm, rfl, k1, k2, k5, k7, k18, k19, k20⟩
    obtain ⟨⟨c1, c2⟩, c3, c4, c5, c6, c7⟩ := id hfm
    have x1 := tms_succ l 1 i hlt
    have x2 := tms_succ l 2 i hlt
    have x3 := tms_succ l 3 i hlt
    have hf' : formedB l (i + 1) = true := by rw [hs, hf]; simpa using hfm
    have hk : l[i].k = 1 ∨ l[i].k = 2 ∨ l[i].k = 3 := by omega
    rcases hk with hk | hk | hk
    · simp only [hk] at x1 x2 x3
      simp at x1 x2 x3
      obtain ⟨ρ', hw, hput⟩ := own3_at1 hown
      rcases hw with ⟨rfl, hw2, hw3⟩ | ⟨⟨c, sz, room⟩, hw0, rfl, hw3⟩
      · refine WC.drop (τ := (⟨b7, 5, 5⟩, [l[i].lv]) :: (⟨bA, 4, 4⟩, [.agg [.val (.slice none 0 0), .val (.slice none 0 0), v2, v3]]) :: (⟨bx, 6, 6⟩, [x.lv]) :: ρ') (Sub.cons _ (Sub.cons _ (Sub.cons _ (Sub.of_perm hw3)))) ?_
        have hw2' : tms (l.take i) 1 = [] := by simpa using hw2
        have hal' := hal 1
        refine WC.nodup fun hnd => ?_
        simp at hnd
        repeat' first
          | refine WC.on mixed rfl ?_
          | (refine new_block fun b hb => ?_; try simp at hb)
          | refine draw_plan 11 [] [(0, 0), (2, 0), (6, 0), (1, 1), (3, 1), (4, 0), (5, 1), (7, 1), (8, 2), (9, 2), (10, 0), (11, 3)] (by kernel_rfl) rfl ?_
          | refine plan_nil ?_
          | refine plan_none rfl (by simp) ?_
          | refine plan_some rfl rfl (by simp) ?_
          | (refine app_litn [] (_ :: _ :: _ :: ρ') ty_sl22 rfl rfl (Own.none _ _) (Sub.refl _) (fun _ _ e => by cases e) (by simp [maxLen]) (by simp) (by simp) fun b2 room2 hfr => ?_; simp at hfr; obtain ⟨hf1, hf2, hf3, hf4⟩ := hfr)
          | simp -dsimp [k1, k2, k5, k7, k18, k19, k20, hlt, hk]
          | simp -dsimp (disch := omega) only [w64]
          | refine And.intro (by omega) ?_
          | refine And.intro ?_ ?_
          | intro h
          | done
        all_goals exact Round.go (l.length - (i + 1)) ((⟨bA, 4, 4⟩, [.agg [.val (.slice none 0 0), (.msl ⟨b2, 1, room2⟩ 0 1), v2, v3]]) :: (⟨bx, 6, 6⟩, [x.lv]) :: (⟨b2, 1, room2⟩, [I l[i].t]) :: ρ') (by omega) (Sub.pick [_, _] (Sub.pick [_, _] (Sub.cons _ (Sub.skip _ (Sub.refl _))))) ⟨i + 1, (.msl ⟨b2, 1, room2⟩ 0 1), v2, v3, (⟨b2, 1, room2⟩, [I l[i].t]) :: ρ', by omega, rfl, hf', by rw [x1, x2, x3, hw2']; simpa using hput _ _ _ (Own.blk (b := b2) (sz := 1) (room := room2) (xs := [I l[i].t]) (τ := ρ') (by simp)), rfl, by simp -dsimp [k1, k2, k5, k18, k19, k20]⟩
      · simp only at hw0
        subst hw0
        refine WC.drop (τ := (⟨b7, 5, 5⟩, [l[i].lv]) :: (⟨bA, 4, 4⟩, [.agg [.val (.slice none 0 0), .msl ⟨c, 1, room⟩ 0 ((tms (l.take i) 1).map I).length, v2, v3]]) :: (⟨bx, 6, 6⟩, [x.lv]) :: (⟨c, 1, room⟩, (tms (l.take i) 1).map I) :: ρ') (Sub.cons _ (Sub.cons _ (Sub.cons _ (Sub.of_perm hw3)))) ?_
        have hal' := hal 1
        refine WC.nodup fun hnd => ?_
        simp at hnd
        repeat' first
          | refine WC.on mixed rfl ?_
          | (refine new_block fun b hb => ?_; try simp at hb)
          | refine draw_plan 11 [c] [(0, 0), (2, 0), (6, 0), (1, 1), (3, 1), (4, 0), (5, 1), (7, 1), (8, 2), (9, 2), (10, 0), (11, 3)] (by kernel_rfl) rfl ?_
          | refine plan_nil ?_
          | refine plan_none rfl (by simp) ?_
          | refine plan_some rfl rfl (by simp) ?_
          | (refine app_litn ((tms (l.take i) 1).map I) (_ :: _ :: _ :: ρ') ty_sl22 rfl rfl ((Own.blk (by simp)).perm (List.perm_middle (l₁ := [_, _, _]))) (Sub.refl _) (fun _ _ e => by cases e; exact .inl (by simp)) (by simp [maxLen]; omega) (by simp; omega) (by simp) fun b2 room2 hfr => ?_; simp at hfr; obtain ⟨hf1, hf2, hf3, hf4⟩ := hfr)
          | simp -dsimp [k1, k2, k5, k7, k18, k19, k20, hlt, hk]
          | simp -dsimp (disch := omega) only [w64]
          | refine And.intro (by omega) ?_
          | refine And.intro ?_ ?_
          | intro h
          | done
        all_goals exact Round.go (l.length - (i + 1)) ((⟨bA, 4, 4⟩, [.agg [.val (.slice none 0 0), (.msl ⟨b2, 1, room2⟩ 0 ((tms (l.take i) 1).length + 1)), v2, v3]]) :: (⟨bx, 6, 6⟩, [x.lv]) :: (⟨b2, 1, room2⟩, (tms (l.take i) 1).map I ++ [I l[i].t]) :: ρ') (by omega) (Sub.pick [_, _] (Sub.pick [_, _] (Sub.cons _ (Sub.skip _ (Sub.refl _))))) ⟨i + 1, (.msl ⟨b2, 1, room2⟩ 0 ((tms (l.take i) 1).length + 1)), v2, v3, (⟨b2, 1, room2⟩, (tms (l.take i) 1).map I ++ [I l[i].t]) :: ρ', by omega, rfl, hf', by rw [x1, x2, x3]; simpa using hput _ _ _ (Own.blk (b := b2) (sz := 1) (room := room2) (xs := (tms (l.take i) 1).map I ++ [I l[i].t]) (τ := ρ') (by simp)), rfl, by simp -dsimp [k1, k2, k5, k18, k19, k20]⟩
    · simp only [hk] at x1 x2 x3
      simp at x1 x2 x3
      obtain ⟨ρ', hw, hput⟩ := own3_at2 hown
      rcases hw with ⟨rfl, hw2, hw3⟩ | ⟨⟨c, sz, room⟩, hw0, rfl, hw3⟩
      · refine WC.drop (τ := (⟨b7, 5, 5⟩, [l[i].lv]) :: (⟨bA, 4, 4⟩, [.agg [.val (.slice none 0 0), v1, .val (.slice none 0 0), v3]]) :: (⟨bx, 6, 6⟩, [x.lv]) :: ρ') (Sub.cons _ (Sub.cons _ (Sub.cons _ (Sub.of_perm hw3)))) ?_
        have hw2' : tms (l.take i) 2 = [] := by simpa using hw2
        have hal' := hal 2
        refine WC.nodup fun hnd => ?_
        simp at hnd
        repeat' first
          | refine WC.on mixed rfl ?_
          | (refine new_block fun b hb => ?_; try simp at hb)
          | refine draw_plan 11 [] [(0, 0), (2, 0), (6, 0), (1, 1), (3, 1), (4, 0), (5, 1), (7, 1), (8, 2), (9, 2), (10, 0), (11, 3)] (by kernel_rfl) rfl ?_
          | refine plan_nil ?_
          | refine plan_none rfl (by simp) ?_
          | refine plan_some rfl rfl (by simp) ?_
          | (refine app_litn [] (_ :: _ :: _ :: ρ') ty_sl22 rfl rfl (Own.none _ _) (Sub.refl _) (fun _ _ e => by cases e) (by simp [maxLen]) (by simp) (by simp) fun b2 room2 hfr => ?_; simp at hfr; obtain ⟨hf1, hf2, hf3, hf4⟩ := hfr)
          | simp -dsimp [k1, k2, k5, k7, k18, k19, k20, hlt, hk]
          | simp -dsimp (disch := omega) only [w64]
          | refine And.intro (by omega) ?_
          | refine And.intro ?_ ?_
          | intro h
          | done
        all_goals exact Round.go (l.length - (i + 1)) ((⟨bA, 4, 4⟩, [.agg [.val (.slice none 0 0), v1, (.msl ⟨b2, 1, room2⟩ 0 1), v3]]) :: (⟨bx, 6, 6⟩, [x.lv]) :: (⟨b2, 1, room2⟩, [I l[i].t]) :: ρ') (by omega) (Sub.pick [_, _] (Sub.pick [_, _] (Sub.cons _ (Sub.skip _ (Sub.refl _))))) ⟨i + 1, v1, (.msl ⟨b2, 1, room2⟩ 0 1), v3, (⟨b2, 1, room2⟩, [I l[i].t]) :: ρ', by omega, rfl, hf', by rw [x1, x2, x3, hw2']; simpa using hput _ _ _ (Own.blk (b := b2) (sz := 1) (room := room2) (xs := [I l[i].t]) (τ := ρ') (by simp)), rfl, by simp -dsimp [k1, k2, k5, k18, k19, k20]⟩
      · simp only at hw0
        subst hw0
        refine WC.drop (τ := (⟨b7, 5, 5⟩, [l[i].lv]) :: (⟨bA, 4, 4⟩, [.agg [.val (.slice none 0 0), v1, .msl ⟨c, 1, room⟩ 0 ((tms (l.take i) 2).map I).length, v3]]) :: (⟨bx, 6, 6⟩, [x.lv]) :: (⟨c, 1, room⟩, (tms (l.take i) 2).map I) :: ρ') (Sub.cons _ (Sub.cons _ (Sub.cons _ (Sub.of_perm hw3)))) ?_
        have hal' := hal 2
        refine WC.nodup fun hnd => ?_
        simp at hnd
        repeat' first
          | refine WC.on mixed rfl ?_
          | (refine new_block fun b hb => ?_; try simp at hb)
          | refine draw_plan 11 [c] [(0, 0), (2, 0), (6, 0), (1, 1), (3, 1), (4, 0), (5, 1), (7, 1), (8, 2), (9, 2), (10, 0), (11, 3)] (by kernel_rfl) rfl ?_
          | refine plan_nil ?_
          | refine plan_none rfl (by simp) ?_
          | refine plan_some rfl rfl (by simp) ?_
          | (refine app_litn ((tms (l.take i) 2).map I) (_ :: _ :: _ :: ρ') ty_sl22 rfl rfl ((Own.blk (by simp)).perm (List.perm_middle (l₁ := [_, _, _]))) (Sub.refl _) (fun _ _ e => by cases e; exact .inl (by simp)) (by simp [maxLen]; omega) (by simp; omega) (by simp) fun b2 room2 hfr => ?_; simp at hfr; obtain ⟨hf1, hf2, hf3, hf4⟩ := hfr)
          | simp -dsimp [k1, k2, k5, k7, k18, k19, k20, hlt, hk]
          | simp -dsimp (disch := omega) only [w64]
          | refine And.intro (by omega) ?_
          | refine And.intro ?_ ?_
          | intro h
          | done
        all_goals exact Round.go (l.length - (i + 1)) ((⟨bA, 4, 4⟩, [.agg [.val (.slice none 0 0), v1, (.msl ⟨b2, 1, room2⟩ 0 ((tms (l.take i) 2).length + 1)), v3]]) :: (⟨bx, 6, 6⟩, [x.lv]) :: (⟨b2, 1, room2⟩, (tms (l.take i) 2).map I ++ [I l[i].t]) :: ρ') (by omega) (Sub.pick [_, _] (Sub.pick [_, _] (Sub.cons _ (Sub.skip _ (Sub.refl _))))) ⟨i + 1, v1, (.msl ⟨b2, 1, room2⟩ 0 ((tms (l.take i) 2).length + 1)), v3, (⟨b2, 1, room2⟩, (tms (l.take i) 2).map I ++ [I l[i].t]) :: ρ', by omega, rfl, hf', by rw [x1, x2, x3]; simpa using hput _ _ _ (Own.blk (b := b2) (sz := 1) (room := room2) (xs := (tms (l.take i) 2).map I ++ [I l[i].t]) (τ := ρ') (by simp)), rfl, by simp -dsimp [k1, k2, k5, k18, k19, k20]⟩
    · simp only [hk] at x1 x2 x3
      simp at x1 x2 x3
      obtain ⟨ρ', hw, hput⟩ := own3_at3 hown
      rcases hw with ⟨rfl, hw2, hw3⟩ | ⟨⟨c, sz, room⟩, hw0, rfl, hw3⟩
      · refine WC.drop (τ := (⟨b7, 5, 5⟩, [l[i].lv]) :: (⟨bA, 4, 4⟩, [.agg [.val (.slice none 0 0), v1, v2, .val (.slice none 0 0)]]) :: (⟨bx, 6, 6⟩, [x.lv]) :: ρ') (Sub.cons _ (Sub.cons _ (Sub.cons _ (Sub.of_perm hw3)))) ?_
        have hw2' : tms (l.take i) 3 = [] := by simpa using hw2
        have hal' := hal 3
        refine WC.nodup fun hnd => ?_
        simp at hnd
        repeat' first
          | refine WC.on mixed rfl ?_
          | (refine new_block fun b hb => ?_; try simp at hb)
          | refine draw_plan 11 [] [(0, 0), (2, 0), (6, 0), (1, 1), (3, 1), (4, 0), (5, 1), (7, 1), (8, 2), (9, 2), (10, 0), (11, 3)] (by kernel_rfl) rfl ?_
          | refine plan_nil ?_
          | refine plan_none rfl (by simp) ?_
          | refine plan_some rfl rfl (by simp) ?_
          | (refine app_litn [] (_ :: _ :: _ :: ρ') ty_sl22 rfl rfl (Own.none _ _) (Sub.refl _) (fun _ _ e => by cases e) (by simp [maxLen]) (by simp) (by simp) fun b2 room2 hfr => ?_; simp at hfr; obtain ⟨hf1, hf2, hf3, hf4⟩ := hfr)
          | simp -dsimp [k1, k2, k5, k7, k18, k19, k20, hlt, hk]
          | simp -dsimp (disch := omega) only [w64]
          | refine And.intro (by omega) ?_
          | refine And.intro ?_ ?_
          | intro h
          | done
        all_goals exact Round.go (l.length - (i + 1)) ((⟨bA, 4, 4⟩, [.agg [.val (.slice none 0 0), v1, v2, (.msl ⟨b2, 1, room2⟩ 0 1)]]) :: (⟨bx, 6, 6⟩, [x.lv]) :: (⟨b2, 1, room2⟩, [I l[i].t]) :: ρ') (by omega) (Sub.pick [_, _] (Sub.pick [_, _] (Sub.cons _ (Sub.skip _ (Sub.refl _))))) ⟨i + 1, v1, v2, (.msl ⟨b2, 1, room2⟩ 0 1), (⟨b2, 1, room2⟩, [I l[i].t]) :: ρ', by omega, rfl, hf', by rw [x1, x2, x3, hw2']; simpa using hput _ _ _ (Own.blk (b := b2) (sz := 1) (room := room2) (xs := [I l[i].t]) (τ := ρ') (by simp)), rfl, by simp -dsimp [k1, k2, k5, k18, k19, k20]⟩
      · simp only at hw0
        subst hw0
        refine WC.drop (τ := (⟨b7, 5, 5⟩, [l[i].lv]) :: (⟨bA, 4, 4⟩, [.agg [.val (.slice none 0 0), v1, v2, .msl ⟨c, 1, room⟩ 0 ((tms (l.take i) 3).map I).length]]) :: (⟨bx, 6, 6⟩, [x.lv]) :: (⟨c, 1, room⟩, (tms (l.take i) 3).map I) :: ρ') (Sub.cons _ (Sub.cons _ (Sub.cons _ (Sub.of_perm hw3)))) ?_
        have hal' := hal 3
        refine WC.nodup fun hnd => ?_
        simp at hnd
        repeat' first
          | refine WC.on mixed rfl ?_
          | (refine new_block fun b hb => ?_; try simp at hb)
          | refine draw_plan 11 [c] [(0, 0), (2, 0), (6, 0), (1, 1), (3, 1), (4, 0), (5, 1), (7, 1), (8, 2), (9, 2), (10, 0), (11, 3)] (by kernel_rfl) rfl ?_
          | refine plan_nil ?_
          | refine plan_none rfl (by simp) ?_
          | refine plan_some rfl rfl (by simp) ?_
          | (refine app_litn ((tms (l.take i) 3).map I) (_ :: _ :: _ :: ρ') ty_sl22 rfl rfl ((Own.blk (by simp)).perm (List.perm_middle (l₁ := [_, _, _]))) (Sub.refl _) (fun _ _ e => by cases e; exact .inl (by simp)) (by simp [maxLen]; omega) (by simp; omega) (by simp) fun b2 room2 hfr => ?_; simp at hfr; obtain ⟨hf1, hf2, hf3, hf4⟩ := hfr)
          | simp -dsimp [k1, k2, k5, k7, k18, k19, k20, hlt, hk]
          | simp -dsimp (disch := omega) only [w64]
          | refine And.intro (by omega) ?_
          | refine And.intro ?_ ?_
          | intro h
          | done
        all_goals exact Round.go (l.length - (i + 1)) ((⟨bA, 4, 4⟩, [.agg [.val (.slice none 0 0), v1, v2, (.msl ⟨b2, 1, room2⟩ 0 ((tms (l.take i) 3).length + 1))]]) :: (⟨bx, 6, 6⟩, [x.lv]) :: (⟨b2, 1, room2⟩, (tms (l.take i) 3).map I ++ [I l[i].t]) :: ρ') (by omega) (Sub.pick [_, _] (Sub.pick [_, _] (Sub.cons _ (Sub.skip _ (Sub.refl _))))) ⟨i + 1, v1, v2, (.msl ⟨b2, 1, room2⟩ 0 ((tms (l.take i) 3).length + 1)), (⟨b2, 1, room2⟩, (tms (l.take i) 3).map I ++ [I l[i].t]) :: ρ', by omega, rfl, hf', by rw [x1, x2, x3]; simpa using hput _ _ _ (Own.blk (b := b2) (sz := 1) (room := room2) (xs := (tms (l.take i) 3).map I ++ [I l[i].t]) (τ := ρ') (by simp)), rfl, by simp -dsimp [k1, k2, k5, k18, k19, k20]⟩
  · have hie : i = l.length := by omega
    subst hie
    rw [List.take_length] at hown
    rw [if_neg (by rw [hf]; simp)]
    have hto := formedB_times hf
    have hL := fun k => tms_len l k
    have hok := fun k => tms_ok hto k
    have on1 : ∀ ts : List Int, ∀ y ∈ ts.map I, y.cells.all LV.one = true := fun ts y hy => by
      obtain ⟨z, _, rfl⟩ := List.mem_map.1 hy
      rfl
    have View1 : ∀ (v : LV) (ts : List Int) (ρ' : Heap), Own 1 v (ts.map I) ρ ρ' → View ((⟨bA, 4, 4⟩, [.agg [.val (.slice none 0 0), v1, v2, v3]]) :: (⟨bx, 6, 6⟩, [x.lv]) :: ρ) [(⟨bA, 4, 4⟩, [.agg [.val (.slice none 0 0), v1, v2, v3]]), (⟨bx, 6, 6⟩, [x.lv])] v (.ro 1 (ts.map I)) := fun v ts ρ' h =>
      (View.own ((h.more (⟨bx, 6, 6⟩, [x.lv])).more _) (on1 ts)).trans (View.of_sub (Sub.cons _ (Sub.cons _ (Sub.nil _))))
    obtain ⟨_, o1, -⟩ := own3_at1 hown
    obtain ⟨_, o2, -⟩ := own3_at2 hown
    obtain ⟨_, o3, -⟩ := own3_at3 hown
    refine WC.hv (τ := [(⟨bA, 4, 4⟩, [.agg [.val (.slice none 0 0), .ro 1 ((tms l 1).map I), .ro 1 ((tms l 2).map I), .ro 1 ((tms l 3).map I)]]), (⟨bx, 6, 6⟩, [x.lv])]) (HV.agg1 (Sub.cons _ (Sub.cons _ (Sub.nil _))) rfl ⟨View.of_sub (Sub.cons _ (Sub.cons _ (Sub.nil _))), View1 _ _ _ o1, View1 _ _ _ o2, View1 _ _ _ o3, trivial⟩) ?_
    clear o1 o2 o3 View1 hown
    have A1 : Pure Try.prog 55 [.ro 1 ((tms l 1).map I), I 1, I x.di] (Bo (apartB (tms l 1) x.di 1)) := by simpa using apart55 (tms l 1) 1 x.di (by have := hL 1; omega) (hok 1) (by omega) (by omega)
    have A2 : Pure Try.prog 55 [.ro 1 ((tms l 2).map I), I 1, I x.pe] (Bo (apartB (tms l 2) x.pe 1)) := by simpa using apart55 (tms l 2) 1 x.pe (by have := hL 2; omega) (hok 2) (by omega) (by omega)
    have A3 : 0 < x.er → Pure Try.prog 55 [.ro 1 ((tms l 3).map I), I x.er, I x.wi] (Bo (apartB (tms l 3) x.wi x.er)) := fun h => by
      have he : ((x.er.toNat : Nat) : Int) = x.er := by omega
      have hle : x.er ≤ 200 := by have := hv; unfold validR at this; omega
      have := apart55 (tms l 3) x.er.toNat x.wi (by have := hL 3; omega) (hok 3) (by omega) (by omega)
      rw [he] at this
      exact this
    have her : 0 ≤ x.er := by have := hv; unfold validR at this; omega
    have eA : apartAll x l = (apartB (tms l 1) x.di 1 && apartB (tms l 2) x.pe 1 && apartB (tms l 3) x.wi x.er) := rfl
    rw [eA]
    generalize hg1 : apartB (tms l 1) x.di 1 = g1 at A1 ⊢
    generalize hg2 : apartB (tms l 2) x.pe 1 = g2 at A2 ⊢
    cases g1
    · skip
      repeat' first
        | refine WC.on mixed rfl ?_
        | (refine new_block fun b hb => ?_; try simp at hb)
        | refine call_pure A1 ?_
        | simp -dsimp [k1, k2, k5, k18, k19, k20]
        | simp -dsimp (disch := omega) only [w64]
        | refine And.intro (by omega) ?_
        | refine And.intro ?_ ?_
        | intro h
        | done
      all_goals trace_state
    cases g2
    · skip
      repeat' first
        | refine WC.on mixed rfl ?_
        | (refine new_block fun b hb => ?_; try simp at hb)
        | refine call_pure A1 ?_
        | refine call_pure A2 ?_
        | simp -dsimp [k1, k2, k5, k18, k19, k20]
        | simp -dsimp (disch := omega) only [w64]
        | refine And.intro (by omega) ?_
        | refine And.intro ?_ ?_
        | intro h
        | done
      all_goals trace_state
    obtain he0 | he0 : x.er = 0 ∨ 0 < x.er := by omega
    · have e3 : apartB (tms l 3) x.wi x.er = decide (tms l 3 = []) := if_pos (.inr he0)
      rw [e3]
      by_cases hz : tms l 3 = []
      · have hz2 : ¬ (0 : Int) < (tms l 3).length := by rw [hz]; simp
        rw [decide_eq_true hz]
        repeat' first
          | refine WC.on mixed rfl ?_
          | (refine new_block fun b hb => ?_; try simp at hb)
          | refine call_pure A1 ?_
          | refine call_pure A2 ?_
          | simp -dsimp [k1, k2, k5, k18, k19, k20, he0, hz2]
          | simp -dsimp (disch := omega) only [w64]
          | refine And.intro (by omega) ?_
          | refine And.intro ?_ ?_
          | intro h
          | done
        all_goals trace_state
      · have hz2 : (0 : Int) < (tms l 3).length := by have := List.length_pos_iff.2 hz; omega
        rw [decide_eq_false hz]
        repeat' first
          | refine WC.on mixed rfl ?_
          | (refine new_block fun b hb => ?_; try simp at hb)
          | refine call_pure A1 ?_
          | refine call_pure A2 ?_
          | simp -dsimp [k1, k2, k5, k18, k19, k20, he0, hz2]
          | simp -dsimp (disch := omega) only [w64]
          | refine And.intro (by omega) ?_
          | refine And.intro ?_ ?_
          | intro h
          | done
        all_goals first | exact hz h | trace_state
    · have he1 : ¬ x.er = 0 := by omega
      have A4 := A3 he0
      generalize hg3 : apartB (tms l 3) x.wi x.er = g3 at A4 ⊢
      cases g3
      · skip
        repeat' first
          | refine WC.on mixed rfl ?_
          | (refine new_block fun b hb => ?_; try simp at hb)
          | refine call_pure A1 ?_
          | refine call_pure A2 ?_
          | refine call_pure A4 ?_
          | simp -dsimp [k1, k2, k5, k18, k19, k20, he0, he1]
          | simp -dsimp (disch := omega) only [w64]
          | refine And.intro (by omega) ?_
          | refine And.intro ?_ ?_
          | intro h
          | done
        all_goals trace_state
      · skip
        repeat' first
          | refine WC.on mixed rfl ?_
          | (refine new_block fun b hb => ?_; try simp at hb)
          | refine call_pure A1 ?_
          | refine call_pure A2 ?_
          | refine call_pure A4 ?_
          | simp -dsimp [k1, k2, k5, k18, k19, k20, he0, he1]
          | simp -dsimp (disch := omega) only [w64]
          | refine And.intro (by omega) ?_
          | refine And.intro ?_ ?_
          | intro h
          | done
        all_goals trace_state
end Go.Proofs.Ytjamehpnclkjdaa
