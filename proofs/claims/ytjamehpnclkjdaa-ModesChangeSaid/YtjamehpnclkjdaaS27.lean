/- Changes of sets of tasks. It bears no statement of its own. -/
import Derived.Test.YtjamehpnclkjdaaS26
namespace Go.Proofs.Ytjamehpnclkjdaa
open Go Go.Ls
set_option linter.unusedVariables false
set_option linter.unusedSimpArgs false
set_option maxRecDepth 100000
attribute [local irreducible] Box drawF

def chgP (js ks : List Jb) (a b : Int) : Prop := validL js ∧ validL ks ∧ (0 ≤ a ∧ a ≤ 16777216) ∧ (0 ≤ b ∧ b ≤ 16777216)
instance (js ks : List Jb) (a b : Int) : Decidable (chgP js ks a b) := by unfold chgP; infer_instance
def hitR (l : List Rl) (f t : Int) : Prop := ∃ i, ∃ h : i < l.length, inn f t l[i] = true
instance (l : List Rl) (f t : Int) : Decidable (hitR l f t) := decidable_of_iff (∃ r ∈ l, inn f t r = true) ⟨fun ⟨r, hr, h⟩ => by obtain ⟨i, hi, rfl⟩ := List.getElem_of_mem hr; exact ⟨i, hi, h⟩, fun ⟨i, hi, h⟩ => ⟨_, List.getElem_mem hi, h⟩⟩
def chgV (js ks : List Jb) (a b : Int) (l : List Rl) : Int := if chgP js ks a b then if relV js l 0 b ≠ 0 then relV js l 0 b else if relV ks l (b + a) 16777217 ≠ 0 then relV ks l (b + a) 16777217 else if hitR l b (b + a) then 42 else 0 else 40
theorem in67 (n : Int) : Pure Try.prog 67 [I n] (Bo (decide (0 ≤ n) && decide (n ≤ 16777216))) := by
  refine lcalls_go (rts := [.tmp 2]) Try.func67 rfl rfl rfl rfl rfl ?_
  repeat' first
    | refine WC.on mixed rfl ?_
    | (refine new_block fun b hb => ?_; try simp at hb)
    | simp -dsimp []
    | simp -dsimp (disch := omega) only [w64]
    | refine And.intro (by omega) ?_
    | simp -dsimp [*]
    | refine And.intro ?_ ?_
    | intro h
    | done
  all_goals grind

set_option maxHeartbeats 4000000 in
theorem change47 (js ks : List Jb) (a b : Int) (l : List Rl) (hj : Fit js) (hk : Fit ks) (hl : l.length ≤ 1000) : Pure Try.prog 47 [.ro 7 (js.map Jb.lv), .ro 7 (ks.map Jb.lv), I a, I b, .ro 3 (l.map Rl.lv)] (I (chgV js ks a b l)) := by
  by_cases hc : chgP js ks a b
  rotate_left
  · have e : chgV js ks a b l = 40 := if_neg hc
    rw [e]
    by_cases h1 : validL js
    all_goals by_cases h2 : validL ks
    all_goals refine lcalls_go (rts := [.tmp 10]) Try.func47 rfl rfl rfl rfl rfl ?_
    all_goals
      repeat' first
        | refine WC.on mixed rfl ?_
        | (refine new_block fun b hb => ?_; try simp at hb)
        | refine call_pure (valid68 js hj) ?_
        | refine call_pure (valid68 ks hk) ?_
        | refine call_pure (in67 _) ?_
        | simp -dsimp [h1, h2]
        | simp -dsimp (disch := omega) only [w64]
        | refine And.intro (by omega) ?_
        | simp -dsimp [*]
        | refine And.intro ?_ ?_
        | intro h
        | done
    all_goals (exfalso; exact hc ⟨h1, h2, by omega, by omega⟩)
  have e : chgV js ks a b l = if relV js l 0 b ≠ 0 then relV js l 0 b else if relV ks l (b + a) 16777217 ≠ 0 then relV ks l (b + a) 16777217 else if hitR l b (b + a) then 42 else 0 := if_pos hc
  rw [e]
  obtain ⟨h1, h2, h3, h4⟩ := id hc
  by_cases r1 : relV js l 0 b = 0
  rotate_left
  · rw [if_pos r1]
    refine lcalls_go (rts := [.tmp 10]) Try.func47 rfl rfl rfl rfl rfl ?_
    repeat' first
      | refine WC.on mixed rfl ?_
      | (refine new_block fun b hb => ?_; try simp at hb)
      | refine call_pure (valid68 js hj) ?_
      | refine call_pure (valid68 ks hk) ?_
      | refine call_pure (in67 _) ?_
      | refine call_pure (releases20 js l 0 b hj hc.1 hl) ?_
      | refine call_pure (releases20 ks l (b + a) 16777217 hk hc.2.1 hl) ?_
      | simp -dsimp [h1, h2, r1]
      | simp -dsimp (disch := omega) only [w64]
      | refine And.intro (by omega) ?_
      | simp -dsimp [*]
      | refine And.intro ?_ ?_
      | intro h
      | done
    all_goals try (exfalso; omega)
  rw [if_neg (fun h => h r1)]
  by_cases r2 : relV ks l (b + a) 16777217 = 0
  rotate_left
  · rw [if_pos r2]
    refine lcalls_go (rts := [.tmp 10]) Try.func47 rfl rfl rfl rfl rfl ?_
    repeat' first
      | refine WC.on mixed rfl ?_
      | (refine new_block fun b hb => ?_; try simp at hb)
      | refine call_pure (valid68 js hj) ?_
      | refine call_pure (valid68 ks hk) ?_
      | refine call_pure (in67 _) ?_
      | refine call_pure (releases20 js l 0 b hj hc.1 hl) ?_
      | refine call_pure (releases20 ks l (b + a) 16777217 hk hc.2.1 hl) ?_
      | simp -dsimp [h1, h2, r1, r2]
      | simp -dsimp (disch := omega) only [w64]
      | refine And.intro (by omega) ?_
      | simp -dsimp [*]
      | refine And.intro ?_ ?_
      | intro h
      | done
    all_goals try (exfalso; omega)
  rw [if_neg (fun h => h r2)]
  refine lcalls_go (rts := [.tmp 10]) Try.func47 rfl rfl rfl rfl rfl ?_
  repeat' first
    | refine WC.on mixed rfl ?_
    | (refine new_block fun b hb => ?_; try simp at hb)
    | refine call_pure (valid68 js hj) ?_
    | refine call_pure (valid68 ks hk) ?_
    | refine call_pure (in67 _) ?_
    | refine call_pure (releases20 js l 0 b hj hc.1 hl) ?_
    | refine call_pure (releases20 ks l (b + a) 16777217 hk hc.2.1 hl) ?_
    | simp -dsimp [h1, h2, r1, r2]
    | simp -dsimp (disch := omega) only [w64]
    | refine And.intro (by omega) ?_
    | simp -dsimp [*]
    | refine And.intro ?_ ?_
    | intro h
    | done
  all_goals try (exfalso; omega)
  refine WC.loop (fun m fr σ => ∃ i : Nat, i ≤ l.length ∧ m = l.length - i ∧ σ = [] ∧ (∀ q (hq : q < l.length), q < i → inn b (b + a) l[q] = false) ∧ fr 2 = I a ∧ fr 3 = I b ∧ fr 52 = .ro 3 (l.map Rl.lv) ∧ fr 53 = I l.length ∧ fr 54 = I i) l.length ⟨0, by omega, by omega, rfl, by simp, by (simp -dsimp [])⟩ ?_
  rintro m fr σ ⟨i, hi, rfl, rfl, hbe, k2, k3, k52, k53, k54⟩
  refine WC.on mixed rfl ?_
  simp -dsimp [k2, k3, k52, k53, k54]
  refine WC.on mixed rfl ?_
  simp -dsimp
  refine ⟨fun hlt => ?_, fun hge => ?_⟩
  · cases hin : inn b (b + a) l[i]
    · have hin' : ¬ (b ≤ l[i].ti ∧ l[i].ti < b + a) := by simpa [inn] using hin
      repeat' first
        | refine WC.on mixed rfl ?_
        | (refine new_block fun b hb => ?_; try simp at hb)
        | simp -dsimp [k2, k3, k52, k53, k54, hlt]
        | simp -dsimp (disch := omega) only [w64]
        | refine And.intro (by omega) ?_
        | simp -dsimp [*]
        | refine And.intro ?_ ?_
        | intro h
        | done
      all_goals first
        | (exfalso; omega)
        | (refine Round.go (l.length - (i + 1)) [] (by omega) (Sub.nil _) ⟨i + 1, by omega, rfl, rfl, fun q hq hqi => ?_, by simp -dsimp [k2, k3, k52, k53, k54]⟩
           by_cases e : q = i
           · subst e; exact hin
           · exact hbe q hq (by omega))
    · have hin' : b ≤ l[i].ti ∧ l[i].ti < b + a := by simpa [inn] using hin
      have hh : hitR l b (b + a) := ⟨i, hlt, hin⟩
      rw [if_pos hh]
      repeat' first
        | refine WC.on mixed rfl ?_
        | (refine new_block fun b hb => ?_; try simp at hb)
        | simp -dsimp [k2, k3, k52, k53, k54, hlt]
        | simp -dsimp (disch := omega) only [w64]
        | refine And.intro (by omega) ?_
        | simp -dsimp [*]
        | refine And.intro ?_ ?_
        | intro h
        | done
      all_goals (exfalso; omega)
  · have hh : ¬ hitR l b (b + a) := fun ⟨q, hq, h⟩ => by rw [hbe q hq (by omega)] at h; cases h
    rw [if_neg hh]
    repeat' first
      | refine WC.on mixed rfl ?_
      | (refine new_block fun b hb => ?_; try simp at hb)
      | simp -dsimp [k2, k3, k52, k53, k54]
      | simp -dsimp (disch := omega) only [w64]
      | refine And.intro (by omega) ?_
      | simp -dsimp [*]
      | refine And.intro ?_ ?_
      | intro h
      | done

set_option maxHeartbeats 4000000 in
theorem change48 (js ks : List Jb) (a b : Int) (l : List Rl) (hj : Fit js) (hk : Fit ks) (hl : l.length ≤ 1000) : Pure Try.prog 48 [.ro 7 (js.map Jb.lv), .ro 7 (ks.map Jb.lv), I a, I b, .ro 3 (l.map Rl.lv)] (I (chgV js ks a b l)) := by
  by_cases hc : chgP js ks a b
  rotate_left
  · have e : chgV js ks a b l = 40 := if_neg hc
    rw [e]
    by_cases h1 : validL js
    all_goals by_cases h2 : validL ks
    all_goals refine lcalls_go (rts := [.tmp 10]) Try.func48 rfl rfl rfl rfl rfl ?_
    all_goals
      repeat' first
        | refine WC.on mixed rfl ?_
        | (refine new_block fun b hb => ?_; try simp at hb)
        | refine call_pure (valid69 js hj) ?_
        | refine call_pure (valid69 ks hk) ?_
        | refine call_pure (in67 _) ?_
        | simp -dsimp [h1, h2]
        | simp -dsimp (disch := omega) only [w64]
        | refine And.intro (by omega) ?_
        | simp -dsimp [*]
        | refine And.intro ?_ ?_
        | intro h
        | done
    all_goals (exfalso; exact hc ⟨h1, h2, by omega, by omega⟩)
  have e : chgV js ks a b l = if relV js l 0 b ≠ 0 then relV js l 0 b else if relV ks l (b + a) 16777217 ≠ 0 then relV ks l (b + a) 16777217 else if hitR l b (b + a) then 42 else 0 := if_pos hc
  rw [e]
  obtain ⟨h1, h2, h3, h4⟩ := id hc
  by_cases r1 : relV js l 0 b = 0
  rotate_left
  · rw [if_pos r1]
    refine lcalls_go (rts := [.tmp 10]) Try.func48 rfl rfl rfl rfl rfl ?_
    repeat' first
      | refine WC.on mixed rfl ?_
      | (refine new_block fun b hb => ?_; try simp at hb)
      | refine call_pure (valid69 js hj) ?_
      | refine call_pure (valid69 ks hk) ?_
      | refine call_pure (in67 _) ?_
      | refine call_pure (releases70 js l 0 b hj hc.1 hl) ?_
      | refine call_pure (releases70 ks l (b + a) 16777217 hk hc.2.1 hl) ?_
      | simp -dsimp [h1, h2, r1]
      | simp -dsimp (disch := omega) only [w64]
      | refine And.intro (by omega) ?_
      | simp -dsimp [*]
      | refine And.intro ?_ ?_
      | intro h
      | done
    all_goals try (exfalso; omega)
  rw [if_neg (fun h => h r1)]
  by_cases r2 : relV ks l (b + a) 16777217 = 0
  rotate_left
  · rw [if_pos r2]
    refine lcalls_go (rts := [.tmp 10]) Try.func48 rfl rfl rfl rfl rfl ?_
    repeat' first
      | refine WC.on mixed rfl ?_
      | (refine new_block fun b hb => ?_; try simp at hb)
      | refine call_pure (valid69 js hj) ?_
      | refine call_pure (valid69 ks hk) ?_
      | refine call_pure (in67 _) ?_
      | refine call_pure (releases70 js l 0 b hj hc.1 hl) ?_
      | refine call_pure (releases70 ks l (b + a) 16777217 hk hc.2.1 hl) ?_
      | simp -dsimp [h1, h2, r1, r2]
      | simp -dsimp (disch := omega) only [w64]
      | refine And.intro (by omega) ?_
      | simp -dsimp [*]
      | refine And.intro ?_ ?_
      | intro h
      | done
    all_goals try (exfalso; omega)
  rw [if_neg (fun h => h r2)]
  refine lcalls_go (rts := [.tmp 10]) Try.func48 rfl rfl rfl rfl rfl ?_
  repeat' first
    | refine WC.on mixed rfl ?_
    | (refine new_block fun b hb => ?_; try simp at hb)
    | refine call_pure (valid69 js hj) ?_
    | refine call_pure (valid69 ks hk) ?_
    | refine call_pure (in67 _) ?_
    | refine call_pure (releases70 js l 0 b hj hc.1 hl) ?_
    | refine call_pure (releases70 ks l (b + a) 16777217 hk hc.2.1 hl) ?_
    | simp -dsimp [h1, h2, r1, r2]
    | simp -dsimp (disch := omega) only [w64]
    | refine And.intro (by omega) ?_
    | simp -dsimp [*]
    | refine And.intro ?_ ?_
    | intro h
    | done
  all_goals try (exfalso; omega)
  refine WC.loop (fun m fr σ => ∃ i : Nat, i ≤ l.length ∧ m = l.length - i ∧ σ = [] ∧ (∀ q (hq : q < l.length), q < i → inn b (b + a) l[q] = false) ∧ fr 2 = I a ∧ fr 3 = I b ∧ fr 55 = .ro 3 (l.map Rl.lv) ∧ fr 56 = I l.length ∧ fr 57 = I i) l.length ⟨0, by omega, by omega, rfl, by simp, by (simp -dsimp [])⟩ ?_
  rintro m fr σ ⟨i, hi, rfl, rfl, hbe, k2, k3, k55, k56, k57⟩
  refine WC.on mixed rfl ?_
  simp -dsimp [k2, k3, k55, k56, k57]
  refine WC.on mixed rfl ?_
  simp -dsimp
  refine ⟨fun hlt => ?_, fun hge => ?_⟩
  · cases hin : inn b (b + a) l[i]
    · have hin' : ¬ (b ≤ l[i].ti ∧ l[i].ti < b + a) := by simpa [inn] using hin
      repeat' first
        | refine WC.on mixed rfl ?_
        | (refine new_block fun b hb => ?_; try simp at hb)
        | simp -dsimp [k2, k3, k55, k56, k57, hlt]
        | simp -dsimp (disch := omega) only [w64]
        | refine And.intro (by omega) ?_
        | simp -dsimp [*]
        | refine And.intro ?_ ?_
        | intro h
        | done
      all_goals first
        | (exfalso; omega)
        | (refine Round.go (l.length - (i + 1)) [] (by omega) (Sub.nil _) ⟨i + 1, by omega, rfl, rfl, fun q hq hqi => ?_, by simp -dsimp [k2, k3, k55, k56, k57]⟩
           by_cases e : q = i
           · subst e; exact hin
           · exact hbe q hq (by omega))
    · have hin' : b ≤ l[i].ti ∧ l[i].ti < b + a := by simpa [inn] using hin
      have hh : hitR l b (b + a) := ⟨i, hlt, hin⟩
      rw [if_pos hh]
      repeat' first
        | refine WC.on mixed rfl ?_
        | (refine new_block fun b hb => ?_; try simp at hb)
        | simp -dsimp [k2, k3, k55, k56, k57, hlt]
        | simp -dsimp (disch := omega) only [w64]
        | refine And.intro (by omega) ?_
        | simp -dsimp [*]
        | refine And.intro ?_ ?_
        | intro h
        | done
      all_goals (exfalso; omega)
  · have hh : ¬ hitR l b (b + a) := fun ⟨q, hq, h⟩ => by rw [hbe q hq (by omega)] at h; cases h
    rw [if_neg hh]
    repeat' first
      | refine WC.on mixed rfl ?_
      | (refine new_block fun b hb => ?_; try simp at hb)
      | simp -dsimp [k2, k3, k55, k56, k57]
      | simp -dsimp (disch := omega) only [w64]
      | refine And.intro (by omega) ?_
      | simp -dsimp [*]
      | refine And.intro ?_ ?_
      | intro h
      | done
end Go.Proofs.Ytjamehpnclkjdaa
