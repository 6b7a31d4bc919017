/- Offsets; changes that are feasible. It bears no statement of its own. -/
import Derived.Test.YtjamehpnclkjdaaS18
import Derived.Test.YtjamehpnclkjdaaS15
namespace Go.Proofs.Ytjamehpnclkjdaa
open Go Go.Ls
set_option linter.unusedVariables false
set_option linter.unusedSimpArgs false
set_option maxRecDepth 100000
attribute [local irreducible] Box drawF

def maxR (al : List An) : Int := al.foldl (fun m a => max m a.re) 0
theorem maxR_succ (al : List An) {i : Nat} (h : i < al.length) : maxR (al.take (i + 1)) = max (maxR (al.take i)) al[i].re := by
  unfold maxR
  rw [List.take_succ_eq_append_getElem h, List.foldl_append]
  rfl
def offT (l : List Jb) (al : List An) : LV := if validL l ∧ al.length = l.length then .tup [I (maxR al), I 0] else .tup [I 0, I 40]

theorem offset50 (l : List Jb) (al : List An) (hl : Fit l) (hal : al.length ≤ 1152921504606846976) : Pure Try.prog 50 [.ro 7 (l.map Jb.lv), .ro 2 (al.map An.lv)] (offT l al) := by
  have hl0 := hl.1
  by_cases hok : validL l ∧ al.length = l.length
  rotate_left
  · have e : offT l al = .tup [I 0, I 40] := if_neg hok
    rw [e]
    refine lcalls_go (rts := [.tmp 4, .tmp 5]) Try.func50 rfl rfl rfl rfl rfl ?_
    by_cases hc : validL l
    · repeat' first
        | refine WC.on mixed rfl ?_
        | (refine new_block fun b hb => ?_; try simp at hb)
        | refine call_pure (valid68 l hl) ?_
        | simp -dsimp [hc]
        | simp -dsimp (disch := omega) only [w64]
        | refine And.intro (by omega) ?_
        | simp -dsimp [*]
        | refine And.intro ?_ ?_
        | intro h
        | done
      all_goals (exfalso; exact hok ⟨hc, by omega⟩)
    · repeat' first
        | refine WC.on mixed rfl ?_
        | (refine new_block fun b hb => ?_; try simp at hb)
        | refine call_pure (valid68 l hl) ?_
        | simp -dsimp [hc]
        | simp -dsimp (disch := omega) only [w64]
        | refine And.intro (by omega) ?_
        | simp -dsimp [*]
        | refine And.intro ?_ ?_
        | intro h
        | done
  have e : offT l al = .tup [I (maxR al), I 0] := if_pos hok
  rw [e]
  obtain ⟨hc, hlen⟩ := hok
  refine lcalls_go (rts := [.tmp 4, .tmp 5]) Try.func50 rfl rfl rfl rfl rfl ?_
  repeat' first
    | refine WC.on mixed rfl ?_
    | (refine new_block fun b hb => ?_; try simp at hb)
    | refine call_pure (valid68 l hl) ?_
    | simp -dsimp [hc, hlen]
    | simp -dsimp (disch := omega) only [w64]
    | refine And.intro (by omega) ?_
    | simp -dsimp [*]
    | refine And.intro ?_ ?_
    | intro h
    | done
  refine WC.loop (fun m fr σ => ∃ i : Nat, i ≤ al.length ∧ m = al.length - i ∧ σ = [] ∧ fr 6 = I (maxR (al.take i)) ∧ fr 19 = .ro 2 (al.map An.lv) ∧ fr 20 = I al.length ∧ fr 21 = I i) al.length ⟨0, by omega, by omega, rfl,  by (simp -dsimp [maxR, hlen])⟩ ?_
  rintro m fr σ ⟨i, hi, rfl, rfl, k6, k19, k20, k21⟩
  refine WC.on mixed rfl ?_
  simp -dsimp [k6, k19, k20, k21]
  refine WC.on mixed rfl ?_
  simp -dsimp
  refine ⟨fun hlt => ?_, fun hge => ?_⟩
  · have hm := maxR_succ al hlt
    repeat' first
      | refine WC.on mixed rfl ?_
      | (refine new_block fun b hb => ?_; try simp at hb)
      | simp -dsimp [k6, k19, k20, k21, hlt]
      | simp -dsimp (disch := omega) only [w64]
      | refine And.intro (by omega) ?_
      | simp -dsimp [*]
      | refine And.intro ?_ ?_
      | intro h
      | done
    all_goals exact Round.go (al.length - (i + 1)) [] (by omega) (Sub.nil _) ⟨i + 1, by omega, rfl, rfl, by simp -dsimp [hm, k6, k19, k20, k21]⟩
  · have : al.take i = al := List.take_of_length_le hge
    rw [this] at k6
    repeat' first
      | refine WC.on mixed rfl ?_
      | (refine new_block fun b hb => ?_; try simp at hb)
      | simp -dsimp [k6, k19, k20, k21]
      | simp -dsimp (disch := omega) only [w64]
      | refine And.intro (by omega) ?_
      | simp -dsimp [*]
      | refine And.intro ?_ ?_
      | intro h
      | done

theorem offset71 (l : List Jb) (al : List An) (hl : Fit l) (hal : al.length ≤ 1152921504606846976) : Pure Try.prog 71 [.ro 7 (l.map Jb.lv), .ro 2 (al.map An.lv)] (offT l al) := by
  have hl0 := hl.1
  by_cases hok : validL l ∧ al.length = l.length
  rotate_left
  · have e : offT l al = .tup [I 0, I 40] := if_neg hok
    rw [e]
    refine lcalls_go (rts := [.tmp 4, .tmp 5]) Try.func71 rfl rfl rfl rfl rfl ?_
    by_cases hc : validL l
    · repeat' first
        | refine WC.on mixed rfl ?_
        | (refine new_block fun b hb => ?_; try simp at hb)
        | refine call_pure (valid69 l hl) ?_
        | simp -dsimp [hc]
        | simp -dsimp (disch := omega) only [w64]
        | refine And.intro (by omega) ?_
        | simp -dsimp [*]
        | refine And.intro ?_ ?_
        | intro h
        | done
      all_goals (exfalso; exact hok ⟨hc, by omega⟩)
    · repeat' first
        | refine WC.on mixed rfl ?_
        | (refine new_block fun b hb => ?_; try simp at hb)
        | refine call_pure (valid69 l hl) ?_
        | simp -dsimp [hc]
        | simp -dsimp (disch := omega) only [w64]
        | refine And.intro (by omega) ?_
        | simp -dsimp [*]
        | refine And.intro ?_ ?_
        | intro h
        | done
  have e : offT l al = .tup [I (maxR al), I 0] := if_pos hok
  rw [e]
  obtain ⟨hc, hlen⟩ := hok
  refine lcalls_go (rts := [.tmp 4, .tmp 5]) Try.func71 rfl rfl rfl rfl rfl ?_
  repeat' first
    | refine WC.on mixed rfl ?_
    | (refine new_block fun b hb => ?_; try simp at hb)
    | refine call_pure (valid69 l hl) ?_
    | simp -dsimp [hc, hlen]
    | simp -dsimp (disch := omega) only [w64]
    | refine And.intro (by omega) ?_
    | simp -dsimp [*]
    | refine And.intro ?_ ?_
    | intro h
    | done
  refine WC.loop (fun m fr σ => ∃ i : Nat, i ≤ al.length ∧ m = al.length - i ∧ σ = [] ∧ fr 6 = I (maxR (al.take i)) ∧ fr 19 = .ro 2 (al.map An.lv) ∧ fr 20 = I al.length ∧ fr 21 = I i) al.length ⟨0, by omega, by omega, rfl,  by (simp -dsimp [maxR, hlen])⟩ ?_
  rintro m fr σ ⟨i, hi, rfl, rfl, k6, k19, k20, k21⟩
  refine WC.on mixed rfl ?_
  simp -dsimp [k6, k19, k20, k21]
  refine WC.on mixed rfl ?_
  simp -dsimp
  refine ⟨fun hlt => ?_, fun hge => ?_⟩
  · have hm := maxR_succ al hlt
    repeat' first
      | refine WC.on mixed rfl ?_
      | (refine new_block fun b hb => ?_; try simp at hb)
      | simp -dsimp [k6, k19, k20, k21, hlt]
      | simp -dsimp (disch := omega) only [w64]
      | refine And.intro (by omega) ?_
      | simp -dsimp [*]
      | refine And.intro ?_ ?_
      | intro h
      | done
    all_goals exact Round.go (al.length - (i + 1)) [] (by omega) (Sub.nil _) ⟨i + 1, by omega, rfl, rfl, by simp -dsimp [hm, k6, k19, k20, k21]⟩
  · have : al.take i = al := List.take_of_length_le hge
    rw [this] at k6
    repeat' first
      | refine WC.on mixed rfl ?_
      | (refine new_block fun b hb => ?_; try simp at hb)
      | simp -dsimp [k6, k19, k20, k21]
      | simp -dsimp (disch := omega) only [w64]
      | refine And.intro (by omega) ?_
      | simp -dsimp [*]
      | refine And.intro ?_ ?_
      | intro h
      | done

def feT (l m : List Jb) (x : Rt) (ins miss : Int) : LV := if (allV l x ins miss).1 ≠ 0 then .tup [I 0, I (allV l x ins miss).1] else if (allV m x ins miss).1 ≠ 0 then .tup [I 0, I (allV m x ins miss).1] else .tup [I (maxR (allV l x ins miss).2), I 0]
theorem allV_ok0 {l : List Jb} {x : Rt} {ins miss : Int} (h : (allV l x ins miss).1 = 0) : okC l x ins miss ∧ ans l x ins miss = some (allV l x ins miss).2 := by
  have hc := (allV_zero.1 h).1
  rw [allV_ok hc] at h ⊢
  refine ⟨hc, ?_⟩
  split
  · rename_i al hal
    rw [hal]
  · rename_i hal
    rw [hal] at h
    cases h

set_option maxHeartbeats 1000000 in
theorem feasible46 (l m : List Jb) (x : Rt) (ins miss : Int) (hl : Fit l) (hm : Fit m) : Pure Try.prog 46 [.ro 7 (l.map Jb.lv), .ro 7 (m.map Jb.lv), x.lv, I ins, I miss] (feT l m x ins miss) := by
  by_cases h1 : (allV l x ins miss).1 = 0
  rotate_left
  · have e : feT l m x ins miss = .tup [I 0, I (allV l x ins miss).1] := if_pos h1
    rw [e]
    refine lcalls_go (rts := [.tmp 10, .tmp 11]) Try.func46 rfl rfl rfl rfl rfl ?_
    repeat' first
      | refine WC.on mixed rfl ?_
      | (refine new_block fun b hb => ?_; try simp at hb)
      | (refine call_new (all38 l x ins miss hl) ?_; rintro _ _ ⟨v1, rfl, hown1⟩)
      | simp -dsimp [h1]
      | simp -dsimp (disch := omega) only [w64]
      | refine And.intro (by omega) ?_
      | simp -dsimp [*]
      | refine And.intro ?_ ?_
      | intro h
      | done
  by_cases h2 : (allV m x ins miss).1 = 0
  rotate_left
  · have e : feT l m x ins miss = .tup [I 0, I (allV m x ins miss).1] := by unfold feT; rw [if_neg (fun h => h h1), if_pos h2]
    rw [e]
    refine lcalls_go (rts := [.tmp 10, .tmp 11]) Try.func46 rfl rfl rfl rfl rfl ?_
    refine WC.on mixed rfl ?_
    repeat' first
      | (refine new_block fun b hb => ?_; try simp at hb)
      | (refine call_new (all38 l x ins miss hl) ?_; rintro _ _ ⟨v1, rfl, hown1⟩)
      | simp -dsimp [h1, h2]
      | simp -dsimp (disch := omega) only [w64]
      | refine And.intro (by omega) ?_
      | simp -dsimp [*]
      | refine And.intro ?_ ?_
      | intro h
      | done
    refine WC.on mixed rfl ?_
    repeat' first
      | (refine new_block fun b hb => ?_; try simp at hb)
      | (refine call_new (all38 l x ins miss hl) ?_; rintro _ _ ⟨v1, rfl, hown1⟩)
      | simp -dsimp [h1, h2]
      | simp -dsimp (disch := omega) only [w64]
      | refine And.intro (by omega) ?_
      | simp -dsimp [*]
      | refine And.intro ?_ ?_
      | intro h
      | done
    refine WC.view 12 (y := .ro 2 ((allV l x ins miss).2.map An.lv)) (τ := [(⟨b, 6, 6⟩, [x.lv])]) (by simpa -dsimp using View.own (hown1.frame _) (An.ones _)) ?_
    clear hown1
    repeat' first
      | refine WC.on mixed rfl ?_
      | (refine new_block fun b hb => ?_; try simp at hb)
      | (refine call_new (all38 m x ins miss hm) ?_; rintro _ _ ⟨v2, rfl, hown2⟩)
      | simp -dsimp [h1, h2]
      | simp -dsimp (disch := omega) only [w64]
      | refine And.intro (by omega) ?_
      | simp -dsimp [*]
      | refine And.intro ?_ ?_
      | intro h
      | done
  have e : feT l m x ins miss = .tup [I (maxR (allV l x ins miss).2), I 0] := by unfold feT; rw [if_neg (fun h => h h1), if_neg (fun h => h h2)]
  rw [e]
  obtain ⟨hc, hans⟩ := allV_ok0 h1
  have hal := (ans_facts hans).1
  have hlen := hc.1.1
  have ho := offset50 l (allV l x ins miss).2 hl (by omega)
  rw [show offT l (allV l x ins miss).2 = .tup [I (maxR (allV l x ins miss).2), I 0] from if_pos ⟨hc.1, hal⟩] at ho
  refine lcalls_go (rts := [.tmp 10, .tmp 11]) Try.func46 rfl rfl rfl rfl rfl ?_
  refine WC.on mixed rfl ?_
  repeat' first
    | (refine new_block fun b hb => ?_; try simp at hb)
    | (refine call_new (all38 l x ins miss hl) ?_; rintro _ _ ⟨v1, rfl, hown1⟩)
    | simp -dsimp [h1, h2]
    | simp -dsimp (disch := omega) only [w64]
    | refine And.intro (by omega) ?_
    | simp -dsimp [*]
    | refine And.intro ?_ ?_
    | intro h
    | done
  refine WC.on mixed rfl ?_
  repeat' first
    | (refine new_block fun b hb => ?_; try simp at hb)
    | (refine call_new (all38 l x ins miss hl) ?_; rintro _ _ ⟨v1, rfl, hown1⟩)
    | simp -dsimp [h1, h2]
    | simp -dsimp (disch := omega) only [w64]
    | refine And.intro (by omega) ?_
    | simp -dsimp [*]
    | refine And.intro ?_ ?_
    | intro h
    | done
  refine WC.view 12 (y := .ro 2 ((allV l x ins miss).2.map An.lv)) (τ := [(⟨b, 6, 6⟩, [x.lv])]) (by simpa -dsimp using View.own (hown1.frame _) (An.ones _)) ?_
  clear hown1
  repeat' first
    | refine WC.on mixed rfl ?_
    | (refine new_block fun b hb => ?_; try simp at hb)
    | (refine call_new (all38 m x ins miss hm) ?_; rintro _ _ ⟨v2, rfl, hown2⟩)
    | refine call_pure ho ?_
    | simp -dsimp [h1, h2]
    | simp -dsimp (disch := omega) only [w64]
    | refine And.intro (by omega) ?_
    | simp -dsimp [*]
    | refine And.intro ?_ ?_
    | intro h
    | done

set_option maxHeartbeats 1000000 in
theorem feasible49 (l m : List Jb) (x : Rt) (ins miss : Int) (hl : Fit l) (hm : Fit m) : Pure Try.prog 49 [.ro 7 (l.map Jb.lv), .ro 7 (m.map Jb.lv), x.lv, I ins, I miss] (feT l m x ins miss) := by
  by_cases h1 : (allV l x ins miss).1 = 0
  rotate_left
  · have e : feT l m x ins miss = .tup [I 0, I (allV l x ins miss).1] := if_pos h1
    rw [e]
    refine lcalls_go (rts := [.tmp 10, .tmp 11]) Try.func49 rfl rfl rfl rfl rfl ?_
    repeat' first
      | refine WC.on mixed rfl ?_
      | (refine new_block fun b hb => ?_; try simp at hb)
      | (refine call_new (all35 l x ins miss hl) ?_; rintro _ _ ⟨v1, rfl, hown1⟩)
      | simp -dsimp [h1]
      | simp -dsimp (disch := omega) only [w64]
      | refine And.intro (by omega) ?_
      | simp -dsimp [*]
      | refine And.intro ?_ ?_
      | intro h
      | done
  by_cases h2 : (allV m x ins miss).1 = 0
  rotate_left
  · have e : feT l m x ins miss = .tup [I 0, I (allV m x ins miss).1] := by unfold feT; rw [if_neg (fun h => h h1), if_pos h2]
    rw [e]
    refine lcalls_go (rts := [.tmp 10, .tmp 11]) Try.func49 rfl rfl rfl rfl rfl ?_
    refine WC.on mixed rfl ?_
    repeat' first
      | (refine new_block fun b hb => ?_; try simp at hb)
      | (refine call_new (all35 l x ins miss hl) ?_; rintro _ _ ⟨v1, rfl, hown1⟩)
      | simp -dsimp [h1, h2]
      | simp -dsimp (disch := omega) only [w64]
      | refine And.intro (by omega) ?_
      | simp -dsimp [*]
      | refine And.intro ?_ ?_
      | intro h
      | done
    refine WC.on mixed rfl ?_
    repeat' first
      | (refine new_block fun b hb => ?_; try simp at hb)
      | (refine call_new (all35 l x ins miss hl) ?_; rintro _ _ ⟨v1, rfl, hown1⟩)
      | simp -dsimp [h1, h2]
      | simp -dsimp (disch := omega) only [w64]
      | refine And.intro (by omega) ?_
      | simp -dsimp [*]
      | refine And.intro ?_ ?_
      | intro h
      | done
    refine WC.view 12 (y := .ro 2 ((allV l x ins miss).2.map An.lv)) (τ := [(⟨b, 6, 6⟩, [x.lv])]) (by simpa -dsimp using View.own (hown1.frame _) (An.ones _)) ?_
    clear hown1
    repeat' first
      | refine WC.on mixed rfl ?_
      | (refine new_block fun b hb => ?_; try simp at hb)
      | (refine call_new (all35 m x ins miss hm) ?_; rintro _ _ ⟨v2, rfl, hown2⟩)
      | simp -dsimp [h1, h2]
      | simp -dsimp (disch := omega) only [w64]
      | refine And.intro (by omega) ?_
      | simp -dsimp [*]
      | refine And.intro ?_ ?_
      | intro h
      | done
  have e : feT l m x ins miss = .tup [I (maxR (allV l x ins miss).2), I 0] := by unfold feT; rw [if_neg (fun h => h h1), if_neg (fun h => h h2)]
  rw [e]
  obtain ⟨hc, hans⟩ := allV_ok0 h1
  have hal := (ans_facts hans).1
  have hlen := hc.1.1
  have ho := offset71 l (allV l x ins miss).2 hl (by omega)
  rw [show offT l (allV l x ins miss).2 = .tup [I (maxR (allV l x ins miss).2), I 0] from if_pos ⟨hc.1, hal⟩] at ho
  refine lcalls_go (rts := [.tmp 10, .tmp 11]) Try.func49 rfl rfl rfl rfl rfl ?_
  refine WC.on mixed rfl ?_
  repeat' first
    | (refine new_block fun b hb => ?_; try simp at hb)
    | (refine call_new (all35 l x ins miss hl) ?_; rintro _ _ ⟨v1, rfl, hown1⟩)
    | simp -dsimp [h1, h2]
    | simp -dsimp (disch := omega) only [w64]
    | refine And.intro (by omega) ?_
    | simp -dsimp [*]
    | refine And.intro ?_ ?_
    | intro h
    | done
  refine WC.on mixed rfl ?_
  repeat' first
    | (refine new_block fun b hb => ?_; try simp at hb)
    | (refine call_new (all35 l x ins miss hl) ?_; rintro _ _ ⟨v1, rfl, hown1⟩)
    | simp -dsimp [h1, h2]
    | simp -dsimp (disch := omega) only [w64]
    | refine And.intro (by omega) ?_
    | simp -dsimp [*]
    | refine And.intro ?_ ?_
    | intro h
    | done
  refine WC.view 12 (y := .ro 2 ((allV l x ins miss).2.map An.lv)) (τ := [(⟨b, 6, 6⟩, [x.lv])]) (by simpa -dsimp using View.own (hown1.frame _) (An.ones _)) ?_
  clear hown1
  repeat' first
    | refine WC.on mixed rfl ?_
    | (refine new_block fun b hb => ?_; try simp at hb)
    | (refine call_new (all35 m x ins miss hm) ?_; rintro _ _ ⟨v2, rfl, hown2⟩)
    | refine call_pure ho ?_
    | simp -dsimp [h1, h2]
    | simp -dsimp (disch := omega) only [w64]
    | refine And.intro (by omega) ?_
    | simp -dsimp [*]
    | refine And.intro ?_ ?_
    | intro h
    | done
end Go.Proofs.Ytjamehpnclkjdaa
