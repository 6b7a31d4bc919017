/- Answers of all jobs. It bears no statement of its own. -/
import Derived.Test.YtjamehpnclkjdaaS10
import Derived.Test.YtjamehpnclkjdaaLp
namespace Go.Proofs.Ytjamehpnclkjdaa
open Go Go.Ls
set_option linter.unusedVariables false
set_option linter.unusedSimpArgs false
set_option maxRecDepth 100000
attribute [local irreducible] Box drawF

def allV (l : List Jb) (x : Rt) (ins miss : Int) : Int × List An := if okC l x ins miss then match ans l x ins miss with
    | some al => (0, al)
    | none => (38, [])
  else (40, [])
def AllR (p : Int × List An) (r : LV) (σ : Heap) : Prop := ∃ v, r = .tup [v, I p.1] ∧ Own 2 v (p.2.map An.lv) σ []
theorem An.ones (l : List An) : ∀ x ∈ l.map An.lv, x.cells.all LV.one = true := by
  intro x hx
  obtain ⟨j, _, rfl⟩ := List.mem_map.1 hx
  rfl
theorem own_plain {v : LV} {l : List An} {σ : Heap} (h : Own 2 v (l.map An.lv) σ []) : Plain v ∧ PlainHeap σ := by
  rcases h with ⟨rfl, _, hp⟩ | ⟨B, _, rfl, hp⟩
  · refine ⟨.val _, fun p hm => ?_⟩
    have := hp.mem_iff.1 hm
    simp at this
  · refine ⟨.msl, fun p hm => ?_⟩
    have := hp.mem_iff.1 hm
    simp at this
    subst this
    intro i x hx j c hc
    obtain ⟨y, _, rfl⟩ := List.mem_map.1 (List.mem_of_getElem? hx)
    have hc' := List.mem_of_getElem? hc
    simp at hc'
    rcases hc' with rfl | rfl <;> exact .val _
theorem AllR.plain {p : Int × List An} {r : LV} {σ : Heap} (h : AllR p r σ) : Plain r ∧ PlainHeap σ := by
  obtain ⟨v, rfl, hown⟩ := h
  obtain ⟨h1, h2⟩ := own_plain hown
  refine ⟨.tup fun i c hc => ?_, h2⟩
  have := List.mem_of_getElem? hc
  simp at this
  rcases this with rfl | rfl
  · exact h1
  · exact .val _
theorem ansA_succ {l : List Jb} {x : Rt} {ins miss : Int} {n : Nat} {al : List An} {t : Int} (h : ansA l x ins miss n = some al) (ht : rt l x ins miss n = some t) : ansA l x ins miss (n + 1) = some (al ++ [⟨blk l n ins, t⟩]) := by
  unfold ansA
  rw [h, ht]
theorem rtT_ok {l : List Jb} {x : Rt} {ins miss : Int} {i : Nat} (hc : okC l x ins miss) (hi : i < l.length) : rtT l x ins miss i = tmT (rt l x ins miss i) := by
  unfold rtT
  rw [if_pos ⟨hc, by omega, by omega⟩, Int.toNat_natCast]

set_option maxHeartbeats 1000000 in
theorem all38 (l : List Jb) (x : Rt) (ins miss : Int) (hl : Fit l) : LCalls Try.prog 38 [.ro 7 (l.map Jb.lv), x.lv, I ins, I miss] [] (AllR (allV l x ins miss)) := by
  have hl0 := hl.1
  by_cases hc : okC l x ins miss
  rotate_left
  · have e : allV l x ins miss = (40, []) := if_neg hc
    rw [e]
    refine lcalls_go (rts := [.tmp 8, .tmp 9]) Try.func38 rfl rfl rfl rfl rfl ?_
    repeat' first
      | refine WC.on mixed rfl ?_
      | (refine new_block fun b hb => ?_; try simp at hb)
      | refine call_pure (check60 l x ins miss hl) ?_
      | simp -dsimp [hc]
      | simp -dsimp (disch := omega) only [w64]
      | refine And.intro (by omega) ?_
      | simp -dsimp [*]
      | refine And.intro ?_ ?_
      | intro h
      | done
    all_goals exact ⟨_, Sub.nil _, _, rfl, Own.none _ _⟩
  have e : allV l x ins miss = match ans l x ins miss with
    | some al => (0, al)
    | none => (38, []) := if_pos hc
  rw [e]
  obtain ⟨hv, hvx, hin, hm⟩ := id hc
  have hx := hvx.small
  have hlen := hv.1
  refine lcalls_go (rts := [.tmp 8, .tmp 9]) Try.func38 rfl rfl rfl rfl rfl ?_
  repeat' first
    | refine WC.on mixed rfl ?_
    | (refine new_block fun b hb => ?_; try simp at hb)
    | refine call_pure (check60 l x ins miss hl) ?_
    | simp -dsimp [hc]
    | simp -dsimp (disch := omega) only [w64]
    | refine And.intro (by omega) ?_
    | simp -dsimp [*]
    | refine And.intro ?_ ?_
    | intro h
    | done
  obtain ⟨bx, hbx⟩ : ∃ bx, bx = b := ⟨b, rfl⟩
  subst hbx
  refine WC.loop (fun m fr σ => ∃ (i : Nat) (al : List An) (ρ : Heap) (v : LV), i ≤ l.length ∧ m = l.length - i ∧ ansA l x ins miss i = some al ∧ Own 2 v (al.map An.lv) ρ [] ∧ σ = (⟨bx, 6, 6⟩, [x.lv]) :: ρ ∧ fr 0 = .ro 7 (l.map Jb.lv) ∧ fr 2 = I ins ∧ fr 3 = I miss ∧ fr 5 = .ref ⟨bx, 6, 6⟩ 0 0 ∧ fr 11 = v ∧ fr 23 = .ro 7 (l.map Jb.lv) ∧ fr 24 = I l.length ∧ fr 25 = I i) l.length
    ⟨0, [], [], _, by omega, by omega, rfl, Own.none _ _, rfl, by simp -dsimp⟩ ?_
  rintro m fr σ ⟨i, al, ρ, v, hi, rfl, hal, hown, rfl, k0, k2, k3, k5, k11, k23, k24, k25⟩
  refine WC.on mixed rfl ?_
  simp -dsimp [k0, k2, k3, k5, k11, k23, k24, k25]
  refine WC.on mixed rfl ?_
  simp -dsimp
  have hall := (ansA_some hal).1
  refine ⟨fun hlt => ?_, fun hge => ?_⟩
  · have hrT := rtT_ok hc hlt
    cases hr : rt l x ins miss i with
    | none =>
      have hno := ans_none hlt hr
      rw [hno]
      repeat' first
        | refine WC.on mixed rfl ?_
        | (refine new_block fun b hb => ?_; try simp at hb)
        | refine call_pure (check60 l x ins miss hl) ?_
        | refine call_pure (least62 l x i ins miss hl hv hx hlt hin hm) ?_
        | refine call_pure (blocking61 l i ins hlt hl) ?_
        | (refine app_litc _ [(⟨bx, 6, 6⟩, [x.lv])] ty_sl52 rfl rfl ((hown.more _)) (Sub.refl _) (fun _ _ _ => .inl trivial) (by simp [maxLen]; omega) (by simp; omega) (by simp) fun b2 room2 => ?_)
        | simp -dsimp [k0, k2, k3, k5, k11, k23, k24, k25, hlt, hr, ltT, hrT, tmT]
        | simp -dsimp (disch := omega) only [w64]
        | refine And.intro (by omega) ?_
        | simp -dsimp [*]
        | refine And.intro ?_ ?_
        | intro h
        | done
      all_goals exact ⟨_, Sub.nil _, _, rfl, Own.none _ _⟩
    | some t =>
      have hsu := ansA_succ hal hr
      repeat' first
        | refine WC.on mixed rfl ?_
        | (refine new_block fun b hb => ?_; try simp at hb)
        | refine call_pure (check60 l x ins miss hl) ?_
        | refine call_pure (least62 l x i ins miss hl hv hx hlt hin hm) ?_
        | refine call_pure (blocking61 l i ins hlt hl) ?_
        | (refine app_litc _ [(⟨bx, 6, 6⟩, [x.lv])] ty_sl52 rfl rfl ((hown.more _)) (Sub.refl _) (fun _ _ _ => .inl trivial) (by simp [maxLen]; omega) (by simp; omega) (by simp) fun b2 room2 => ?_)
        | simp -dsimp [k0, k2, k3, k5, k11, k23, k24, k25, hlt, hr, ltT, hrT, tmT]
        | simp -dsimp (disch := omega) only [w64]
        | refine And.intro (by omega) ?_
        | simp -dsimp [*]
        | refine And.intro ?_ ?_
        | intro h
        | done
      all_goals exact Round.go (l.length - (i + 1)) ((⟨bx, 6, 6⟩, [x.lv]) :: [(⟨b2, 2, room2⟩, al.map An.lv ++ [_])]) (by omega) (Sub.swap _ _ (Sub.refl _)) ⟨i + 1, _, _, .msl ⟨b2, 2, room2⟩ 0 (i + 1), by omega, rfl, hsu, by rw [List.map_append]; exact Own.blk (by simp; omega), rfl, by simp -dsimp [k0, k2, k3, k5, k11, k23, k24, k25]⟩
  · have : i = l.length := by omega
    subst this
    have hans : ans l x ins miss = some al := hal
    rw [hans]
    repeat' first
      | refine WC.on mixed rfl ?_
      | (refine new_block fun b hb => ?_; try simp at hb)
      | simp -dsimp [k0, k2, k3, k5, k11, k23, k24, k25]
      | simp -dsimp (disch := omega) only [w64]
      | refine And.intro (by omega) ?_
      | simp -dsimp [*]
      | refine And.intro ?_ ?_
      | intro h
      | done
    all_goals exact ⟨ρ, Sub.skip _ (Sub.refl _), _, rfl, hown⟩

set_option maxHeartbeats 1000000 in
theorem all35 (l : List Jb) (x : Rt) (ins miss : Int) (hl : Fit l) : LCalls Try.prog 35 [.ro 7 (l.map Jb.lv), x.lv, I ins, I miss] [] (AllR (allV l x ins miss)) := by
  have hl0 := hl.1
  by_cases hc : okC l x ins miss
  rotate_left
  · have e : allV l x ins miss = (40, []) := if_neg hc
    rw [e]
    refine lcalls_go (rts := [.tmp 8, .tmp 9]) Try.func35 rfl rfl rfl rfl rfl ?_
    repeat' first
      | refine WC.on mixed rfl ?_
      | (refine new_block fun b hb => ?_; try simp at hb)
      | refine call_pure (good58 l x ins miss hl) ?_
      | simp -dsimp [hc]
      | simp -dsimp (disch := omega) only [w64]
      | refine And.intro (by omega) ?_
      | simp -dsimp [*]
      | refine And.intro ?_ ?_
      | intro h
      | done
    all_goals exact ⟨_, Sub.nil _, _, rfl, Own.none _ _⟩
  have e : allV l x ins miss = match ans l x ins miss with
    | some al => (0, al)
    | none => (38, []) := if_pos hc
  rw [e]
  obtain ⟨hv, hvx, hin, hm⟩ := id hc
  have hx := hvx.small
  have hlen := hv.1
  refine lcalls_go (rts := [.tmp 8, .tmp 9]) Try.func35 rfl rfl rfl rfl rfl ?_
  repeat' first
    | refine WC.on mixed rfl ?_
    | (refine new_block fun b hb => ?_; try simp at hb)
    | refine call_pure (good58 l x ins miss hl) ?_
    | simp -dsimp [hc]
    | simp -dsimp (disch := omega) only [w64]
    | refine And.intro (by omega) ?_
    | simp -dsimp [*]
    | refine And.intro ?_ ?_
    | intro h
    | done
  obtain ⟨bx, hbx⟩ : ∃ bx, bx = b := ⟨b, rfl⟩
  subst hbx
  refine WC.loop (fun m fr σ => ∃ (i : Nat) (al : List An) (ρ : Heap) (v : LV), i ≤ l.length ∧ m = l.length - i ∧ ansA l x ins miss i = some al ∧ Own 2 v (al.map An.lv) ρ [] ∧ σ = (⟨bx, 6, 6⟩, [x.lv]) :: ρ ∧ fr 0 = .ro 7 (l.map Jb.lv) ∧ fr 2 = I ins ∧ fr 3 = I miss ∧ fr 5 = .ref ⟨bx, 6, 6⟩ 0 0 ∧ fr 10 = v ∧ fr 20 = .ro 7 (l.map Jb.lv) ∧ fr 21 = I l.length ∧ fr 22 = I i) l.length
    ⟨0, [], [], _, by omega, by omega, rfl, Own.none _ _, rfl, by simp -dsimp⟩ ?_
  rintro m fr σ ⟨i, al, ρ, v, hi, rfl, hal, hown, rfl, k0, k2, k3, k5, k10, k23, k24, k25⟩
  refine WC.on mixed rfl ?_
  simp -dsimp [k0, k2, k3, k5, k10, k23, k24, k25]
  refine WC.on mixed rfl ?_
  simp -dsimp
  have hall := (ansA_some hal).1
  refine ⟨fun hlt => ?_, fun hge => ?_⟩
  · have hrT := rtT_ok hc hlt
    cases hr : rt l x ins miss i with
    | none =>
      have hno := ans_none hlt hr
      rw [hno]
      repeat' first
        | refine WC.on mixed rfl ?_
        | (refine new_block fun b hb => ?_; try simp at hb)
        | refine call_pure (good58 l x ins miss hl) ?_
        | refine call_pure (time42 l x i ins miss hl) ?_
        | refine call_pure (blocking59 l i ins hlt hl) ?_
        | (refine app_litc _ [(⟨bx, 6, 6⟩, [x.lv])] ty_sl52 rfl rfl ((hown.more _)) (Sub.refl _) (fun _ _ _ => .inl trivial) (by simp [maxLen]; omega) (by simp; omega) (by simp) fun b2 room2 => ?_)
        | simp -dsimp [k0, k2, k3, k5, k10, k23, k24, k25, hlt, hr, ltT, hrT, tmT]
        | simp -dsimp (disch := omega) only [w64]
        | refine And.intro (by omega) ?_
        | simp -dsimp [*]
        | refine And.intro ?_ ?_
        | intro h
        | done
      all_goals exact ⟨_, Sub.nil _, _, rfl, Own.none _ _⟩
    | some t =>
      have hsu := ansA_succ hal hr
      repeat' first
        | refine WC.on mixed rfl ?_
        | (refine new_block fun b hb => ?_; try simp at hb)
        | refine call_pure (good58 l x ins miss hl) ?_
        | refine call_pure (time42 l x i ins miss hl) ?_
        | refine call_pure (blocking59 l i ins hlt hl) ?_
        | (refine app_litc _ [(⟨bx, 6, 6⟩, [x.lv])] ty_sl52 rfl rfl ((hown.more _)) (Sub.refl _) (fun _ _ _ => .inl trivial) (by simp [maxLen]; omega) (by simp; omega) (by simp) fun b2 room2 => ?_)
        | simp -dsimp [k0, k2, k3, k5, k10, k23, k24, k25, hlt, hr, ltT, hrT, tmT]
        | simp -dsimp (disch := omega) only [w64]
        | refine And.intro (by omega) ?_
        | simp -dsimp [*]
        | refine And.intro ?_ ?_
        | intro h
        | done
      all_goals exact Round.go (l.length - (i + 1)) ((⟨bx, 6, 6⟩, [x.lv]) :: [(⟨b2, 2, room2⟩, al.map An.lv ++ [_])]) (by omega) (Sub.swap _ _ (Sub.refl _)) ⟨i + 1, _, _, .msl ⟨b2, 2, room2⟩ 0 (i + 1), by omega, rfl, hsu, by rw [List.map_append]; exact Own.blk (by simp; omega), rfl, by simp -dsimp [k0, k2, k3, k5, k10, k23, k24, k25]⟩
  · have : i = l.length := by omega
    subst this
    have hans : ans l x ins miss = some al := hal
    rw [hans]
    repeat' first
      | refine WC.on mixed rfl ?_
      | (refine new_block fun b hb => ?_; try simp at hb)
      | simp -dsimp [k0, k2, k3, k5, k10, k23, k24, k25]
      | simp -dsimp (disch := omega) only [w64]
      | refine And.intro (by omega) ?_
      | simp -dsimp [*]
      | refine And.intro ?_ ?_
      | intro h
      | done
    all_goals exact ⟨ρ, Sub.skip _ (Sub.refl _), _, rfl, hown⟩
end Go.Proofs.Ytjamehpnclkjdaa
