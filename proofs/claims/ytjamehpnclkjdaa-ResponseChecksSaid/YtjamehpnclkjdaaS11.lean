/- Jobs that a deck gives. It bears no statement of its own. -/
import Derived.Test.YtjamehpnclkjdaaS10
import Derived.Test.YtjamehpnclkjdaaR4
import Derived.Test.YtjamehpnclkjdaaLp
namespace Go.Proofs.Ytjamehpnclkjdaa
open Go Go.Ls
set_option linter.unusedVariables false
set_option linter.unusedSimpArgs false
set_option maxRecDepth 100000
attribute [local irreducible] Box drawF

structure JobOk (j : Jb) : Prop where
  pe : 50 ≤ j.pe ∧ j.pe < 350
  de : 1 ≤ j.de ∧ j.de ≤ j.pe ∧ j.pe - 40 < j.de
  ji : 0 ≤ j.ji ∧ j.ji < 10
  pr : 0 ≤ j.pr ∧ j.pr < 4
  co : 0 ≤ j.co ∧ j.co < 25
  ev : 0 ≤ j.ev ∧ j.ev < 5
  len : j.se.length ≤ 2
  se : ∀ h ∈ j.se, (0 ≤ h.re ∧ h.re < 3) ∧ (0 ≤ h.co ∧ h.co < 12)
def Jobs (n : Nat) (l : List Jb) : Prop := l.length = n ∧ ∀ j ∈ l, JobOk j
theorem Jobs.snoc {n : Nat} {l : List Jb} {j : Jb} (h : Jobs n l) (hj : JobOk j) : Jobs (n + 1) (l ++ [j]) := by
  refine ⟨by simp [h.1], fun e he => ?_⟩
  rcases List.mem_append.1 he with he | he
  · exact h.2 e he
  · rw [List.mem_singleton.1 he]
    exact hj
theorem JobOk.valid {j : Jb} (h : JobOk j) : validJ j := by
  obtain ⟨h1, h2, h3, h4, h5, h6, h7, h8⟩ := h
  refine ⟨?_, fun x hx => ?_⟩
  · unfold validN; omega
  · have := h8 x hx
    unfold validH; omega
theorem Jobs.valid {n : Nat} {l : List Jb} (h : Jobs n l) (hn : n ≤ 6) : validL l := ⟨by rw [h.1]; exact hn, fun j hj => (h.2 j hj).valid⟩
theorem Jobs.fit {n : Nat} {l : List Jb} (h : Jobs n l) (hn : n ≤ 1000) : Fit l := ⟨by rw [h.1]; omega, fun j hj => by have := (h.2 j hj).len; omega⟩
theorem Jb.ones (l : List Jb) : ∀ x ∈ l.map Jb.lv, x.cells.all LV.one = true := by
  intro x hx
  obtain ⟨j, _, rfl⟩ := List.mem_map.1 hx
  rfl
theorem Hd.ones (l : List Hd) : ∀ x ∈ l.map Hd.lv, x.cells.all LV.one = true := by
  intro x hx
  obtain ⟨j, _, rfl⟩ := List.mem_map.1 hx
  rfl
def JobsR (ls : List Int) (b0 n : Nat) (r : LV) (σ : Heap) : Prop := ∃ (a' : Nat) (js : List Jb), a' ≤ ls.length ∧ Jobs n js ∧ Own 7 r (js.map Jb.lv) σ [(dk b0, deck ls a')]

set_option maxHeartbeats 4000000 in
theorem jobs17 (ls : List Int) (a0 b0 : Nat) (n : Nat) (ha0 : a0 ≤ ls.length) (hl : ls.length ≤ 1152921504606846976) (hn : n ≤ 1000) :
    LCalls Try.prog 17 [.ref (dk b0) 0 0, I n] [(dk b0, deck ls a0)] (JobsR ls b0 n) := by
  refine lcalls_go (rts := [.tmp 4]) Try.func17 rfl rfl rfl rfl rfl ?_
  repeat' first
    | refine WC.on mixed rfl ?_
    | (refine new_block fun b hb => ?_; try simp at hb)
    | simp -dsimp []
    | simp -dsimp (disch := omega) only [w64]
    | refine And.intro (by omega) ?_
    | simp -dsimp [*]
    | refine And.intro ?_ ?_
    | intro h
    | done
  refine WC.loop (fun m fr σ => ∃ (i a : Nat) (js : List Jb) (ρ : Heap) (v : LV), i ≤ n ∧ m = n - i ∧ a ≤ ls.length ∧ Jobs i js ∧ Own 7 v (js.map Jb.lv) ρ [] ∧ σ = (dk b0, deck ls a) :: ρ ∧ fr 0 = .ref (dk b0) 0 0 ∧ fr 5 = v ∧ fr 8 = I n ∧ fr 9 = I i) n
    ⟨0, a0, [], [], _, by omega, by omega, ha0, ⟨rfl, by simp⟩, Own.none _ _, rfl, by simp -dsimp⟩ ?_
  clear ha0
  rintro m fr σ ⟨i, a, js, ρ, v0, hi, rfl, ha, hjs, hown, rfl, k0, k5, k8, k9⟩
  refine WC.on mixed rfl ?_
  simp -dsimp [k0, k5, k8, k9]
  refine WC.on mixed rfl ?_
  simp -dsimp
  have hjl := hjs.1
  refine ⟨fun hlt => ?_, fun hge => ?_⟩
  rotate_left
  · have e : i = n := by omega
    subst e
    repeat' first
      | refine WC.on mixed rfl ?_
      | (refine new_block fun b hb => ?_; try simp at hb)
      | simp -dsimp [k0, k5, k8, k9]
      | simp -dsimp (disch := omega) only [w64]
      | refine And.intro (by omega) ?_
      | simp -dsimp [*]
      | refine And.intro ?_ ?_
      | intro h
      | done
    exact ⟨(dk b0, deck ls a) :: ρ, Sub.refl _, a, js, ha, hjs, hown.more _⟩
  repeat' first
    | refine WC.on mixed rfl ?_
    | (refine new_block fun b hb => ?_; try simp at hb)
    | refine draw_plan 5 [b0] [(0, 0), (2, 0), (1, 1), (3, 2), (4, 0), (5, 0), (6, 0), (7, 3)] (by kernel_rfl) rfl ?_
    | refine plan_nil ?_
    | refine plan_none rfl (by simp) ?_
    | refine plan_some rfl rfl (by simp) ?_
    | refine next_a hl (by assumption) (by omega) (by omega) trivial fun a v ha h0 h1 => ?_
    | refine next_b hl (by assumption) (by omega) (by omega) trivial fun a v ha h0 h1 => ?_
    | refine next_c hl (by assumption) (by omega) (by omega) trivial fun a v ha h0 h1 => ?_
    | refine next_a hl (by assumption) (by omega) (by omega) (by simp) fun a v ha h0 h1 => ?_
    | refine next_b hl (by assumption) (by omega) (by omega) (by simp) fun a v ha h0 h1 => ?_
    | refine next_c hl (by assumption) (by omega) (by omega) (by simp) fun a v ha h0 h1 => ?_
    | simp -dsimp [k0, k5, k8, k9]
    | simp -dsimp (disch := omega) only [w64]
    | refine And.intro (by omega) ?_
    | simp -dsimp [*]
    | refine And.intro ?_ ?_
    | intro h
    | done
  rename_i _ v1 _ h01 h11 _ v2 _ h02 h12 _ v3 _ h03 h13 _ v4 _ h04 h14 _ v5 _ h05 h15 _ v6 _ h06 h16
  refine WC.loop (fun m fr σ => ∃ (t : Int) (a : Nat) (hs : List Hd) (v7 : LV) (ρ' : Heap), (0 ≤ t ∧ hs.length + t ≤ 2) ∧ m = t.toNat ∧ a ≤ ls.length ∧ (∀ h ∈ hs, (0 ≤ h.re ∧ h.re < 3) ∧ (0 ≤ h.co ∧ h.co < 12)) ∧ Own 2 v7 (hs.map Hd.lv) ρ' ρ ∧
    σ = (dk b0, deck ls a) :: (⟨b, 7, 7⟩, [.agg [I (50 + v1), I (max 1 (50 + v1 - v6)), I v2, I v3, I v4, v7, I v5]]) :: ρ' ∧ fr 0 = .ref (dk b0) 0 0 ∧ fr 5 = v0 ∧ fr 6 = .ref ⟨b, 7, 7⟩ 0 0 ∧ fr 7 = I t ∧ fr 8 = I n ∧ fr 9 = I i) v.toNat
    ⟨v, a, [], .val (.slice none 0 0), ρ, ⟨h0, by simp; omega⟩, rfl, ha, by simp, Own.none _ _, by simp -dsimp (disch := omega) only [w64], by simp -dsimp [k0, k5, k8, k9]⟩ ?_
  clear ha h0 h1
  rintro m fr σ ⟨t, a, hs, v7, ρ', ⟨ht0, ht⟩, rfl, ha, hhs, hown2, rfl, k0, k5, k6, k7, k8, k9⟩
  refine WC.on mixed rfl ?_
  simp -dsimp [k0, k5, k6, k7, k8, k9]
  refine WC.on mixed rfl ?_
  simp -dsimp
  refine ⟨fun hlt2 => ?_, fun hge2 => ?_⟩
  · rcases hown2 with ⟨rfl, hnil, hp⟩ | ⟨⟨c, sz, room⟩, hsz, rfl, hp⟩
    · have e : hs = [] := by simpa using hnil
      subst e
      refine WC.drop (τ := (dk b0, deck ls a) :: (⟨b, 7, 7⟩, [.agg [I (50 + v1), I (max 1 (50 + v1 - v6)), I v2, I v3, I v4, .val (.slice none 0 0), I v5]]) :: ρ) (Sub.cons _ (Sub.cons _ (Sub.of_perm hp))) ?_
      refine WC.nodup fun hnd => ?_
      simp at hnd
      repeat' first
        | refine WC.on mixed rfl ?_
        | (refine new_block fun b hb => ?_; try simp at hb)
        | refine draw_plan 9 [b0] [(0, 0), (2, 0), (4, 0), (1, 1), (3, 2), (5, 2), (6, 0), (7, 2), (8, 2), (9, 0), (10, 3)] (by kernel_rfl) rfl ?_
        | refine plan_nil ?_
        | refine plan_none rfl (by simp) ?_
        | refine plan_some rfl rfl (by simp) ?_
        | refine next_a hl (by assumption) (by omega) (by omega) (by simp) fun a v ha h0 h1 => ?_
        | (refine app_litc [] (_ :: _ :: ρ) ty_sl61 rfl rfl (Own.none _ _) (Sub.refl _) (fun _ _ e => by cases e) (by simp [maxLen]) (by simp) (by simp) fun b2 room2 => ?_)
        | simp -dsimp [k0, k5, k6, k7, k8, k9]
        | simp -dsimp (disch := omega) only [w64]
        | refine And.intro (by omega) ?_
        | simp -dsimp [*]
        | refine And.intro ?_ ?_
        | intro h
        | done
      all_goals
        refine Round.go (t - 1).toNat (_ :: _ :: (⟨b2, 2, room2⟩, _) :: ρ) (by omega) (Sub.of_perm ((List.perm_middle (l₁ := [_, _])).symm)) ⟨t - 1, _, [] ++ [⟨_, _⟩], _, _, ⟨by omega, by simp; omega⟩, rfl, by assumption, ?_, by rw [List.map_append]; exact Own.blk (by simp), rfl, by simp -dsimp [k0, k5, k6, k7, k8, k9]⟩
        intro h hh
        simp at hh
        first
          | (subst hh; simp; omega)
          | (rcases hh with hh | rfl
             · exact hhs h hh
             · simp; omega)
    · simp only at hsz
      subst hsz
      refine WC.drop (τ := (dk b0, deck ls a) :: (⟨b, 7, 7⟩, [.agg [I (50 + v1), I (max 1 (50 + v1 - v6)), I v2, I v3, I v4, .msl ⟨c, 2, room⟩ 0 (hs.map Hd.lv).length, I v5]]) :: (⟨c, 2, room⟩, hs.map Hd.lv) :: ρ) (Sub.cons _ (Sub.cons _ (Sub.of_perm hp))) ?_
      refine WC.nodup fun hnd => ?_
      simp at hnd
      repeat' first
        | refine WC.on mixed rfl ?_
        | (refine new_block fun b hb => ?_; try simp at hb)
        | refine draw_plan 9 [b0, c] [(0, 0), (2, 0), (4, 0), (1, 1), (3, 2), (5, 2), (6, 0), (7, 2), (8, 2), (9, 0), (10, 3)] (by kernel_rfl) rfl ?_
        | refine plan_nil ?_
        | refine plan_none rfl (by simp) ?_
        | refine plan_some rfl rfl (by simp) ?_
        | refine next_a hl (by assumption) (by omega) (by omega) (by simp) fun a v ha h0 h1 => ?_
        | (refine app_litc (hs.map Hd.lv) (_ :: _ :: ρ) ty_sl61 rfl rfl ((Own.blk (by simp)).perm (List.perm_middle (l₁ := [_, _]))) (Sub.refl _) (fun _ _ e => by cases e; exact .inl (by simp)) (by simp [maxLen]; omega) (by simp; omega) (by simp) fun b2 room2 => ?_)
        | simp -dsimp [k0, k5, k6, k7, k8, k9]
        | simp -dsimp (disch := omega) only [w64]
        | refine And.intro (by omega) ?_
        | simp -dsimp [*]
        | refine And.intro ?_ ?_
        | intro h
        | done
      all_goals
        refine Round.go (t - 1).toNat (_ :: _ :: (⟨b2, 2, room2⟩, _) :: ρ) (by omega) (Sub.of_perm ((List.perm_middle (l₁ := [_, _])).symm)) ⟨t - 1, _, hs ++ [⟨_, _⟩], _, _, ⟨by omega, by simp; omega⟩, rfl, by assumption, ?_, by rw [List.map_append]; exact Own.blk (by simp), rfl, by simp -dsimp [k0, k5, k6, k7, k8, k9]⟩
        intro h hh
        simp at hh
        first
          | (subst hh; simp; omega)
          | (rcases hh with hh | rfl
             · exact hhs h hh
             · simp; omega)
  · have hp : Sub ((⟨b, 7, 7⟩, [.agg [I (50 + v1), I (max 1 (50 + v1 - v6)), I v2, I v3, I v4, v7, I v5]]) :: (dk b0, deck ls a) :: ρ) ((dk b0, deck ls a) :: (⟨b, 7, 7⟩, [.agg [I (50 + v1), I (max 1 (50 + v1 - v6)), I v2, I v3, I v4, v7, I v5]]) :: ρ') := Sub.swap _ _ hown2.sub
    refine WC.hv (HV.agg1 (ds := [I (50 + v1), I (max 1 (50 + v1 - v6)), I v2, I v3, I v4, .ro 2 (hs.map Hd.lv), I v5]) hp rfl ⟨View.of_sub hp, View.of_sub hp, View.of_sub hp, View.of_sub hp, View.of_sub hp, (View.own ((hown2.more _).more _) (Hd.ones hs)).trans (View.of_sub (Sub.swap _ _ (Sub.refl _))), View.of_sub hp, trivial⟩) ?_
    clear hown2 hp
    repeat' first
      | refine WC.on mixed rfl ?_
      | (refine new_block fun b hb => ?_; try simp at hb)
      | (refine app_litc (js.map Jb.lv) [(dk b0, deck ls a)] ty_sl25 rfl rfl ((hown.more _).more _) (Sub.skip _ (Sub.refl _)) (fun _ _ _ => .inl trivial) (by simp [maxLen]; omega) (by simp; omega) (by simp) fun b2 room2 => ?_)
      | simp -dsimp [k0, k5, k6, k7, k8, k9]
      | simp -dsimp (disch := omega) only [w64]
      | refine And.intro (by omega) ?_
      | simp -dsimp [*]
      | refine And.intro ?_ ?_
      | intro h
      | done
    refine Round.go (n - (i + 1)) ((dk b0, deck ls a) :: [(⟨b2, 7, room2⟩, _)]) (by omega) (Sub.swap _ _ (Sub.refl _)) ⟨i + 1, a, js ++ [⟨50 + v1, max 1 (50 + v1 - v6), v2, v3, v4, hs, v5⟩], _, .msl ⟨b2, 7, room2⟩ 0 (i + 1), by omega, rfl, ha, hjs.snoc ?_, by rw [List.map_append]; exact Own.blk (by simp; omega), rfl, by simp -dsimp [k0, k5, k6, k7, k8, k9]⟩
    constructor
    all_goals simp
    all_goals first
      | omega
      | exact hhs

/-- Jobs in a block of their own, beside the deck. -/
def JobsC (ls : List Int) (b0 n : Nat) (r : LV) (σ : Heap) : Prop := ∃ (a' : Nat) (js : List Jb) (c room : Nat), a' ≤ ls.length ∧ Jobs n js ∧ r = .msl ⟨c, 7, room⟩ 0 n ∧ σ = [(dk b0, deck ls a'), (⟨c, 7, room⟩, js.map Jb.lv)]
theorem jobsC (ls : List Int) (a0 b0 : Nat) (n : Int) (ha0 : a0 ≤ ls.length) (hl : ls.length ≤ 1152921504606846976) (h0 : 1 ≤ n) (h1 : n ≤ 1000) :
    LCalls Try.prog 17 [.ref (dk b0) 0 0, I n] [(dk b0, deck ls a0)] (JobsC ls b0 n.toNat) := by
  obtain ⟨k, rfl⟩ := Int.eq_ofNat_of_zero_le (show 0 ≤ n by omega)
  rw [Int.toNat_natCast]
  refine (jobs17 ls a0 b0 k ha0 hl (by omega)).seen fun r σ h => ?_
  obtain ⟨a', js, ha, hjs, hown⟩ := h
  rcases hown with ⟨_, h, _⟩ | ⟨⟨c, sz, room⟩, hsz, rfl, hp⟩
  · have := hjs.1
    have h := congrArg List.length h
    rw [List.length_map, List.length_nil] at h
    omega
  · simp only at hsz
    subst hsz
    refine ⟨_, _, View.of_sub (Sub.of_perm (hp.trans (List.Perm.swap _ _ _))), a', js, c, room, ha, hjs, ?_, rfl⟩
    rw [List.length_map, hjs.1]
end Go.Proofs.Ytjamehpnclkjdaa
