/- Ceilings and blocking. It bears no statement of its own. -/
import Derived.Test.YtjamehpnclkjdaaS5
namespace Go.Proofs.Ytjamehpnclkjdaa
open Go Go.Ls
set_option linter.unusedVariables false
set_option linter.unusedSimpArgs false
set_option maxRecDepth 100000
attribute [local irreducible] Box drawF

theorem cl_succ {l : List Jb} {r : Int} {i : Nat} (h : i < l.length) : cl l r (i + 1) = if usesR l[i] r then match cl l r i with
    | none => some i
    | some b => if bef l i b then some i else some b
  else cl l r i := by
  rw [cl, List.getElem?_eq_getElem h]
  rfl
theorem contains77u (j : Jb) (r : Int) (hl : j.se.length ≤ 1152921504606846976) : Pure Try.prog 77 [.ro 2 (j.se.map Hd.lv), .fn 81 [.adr [I r]]] (Bo (usesR j r)) :=
  contains77 81 [.adr [I r]] (fun h => decide (h.re = r)) j.se hl fun h _ => uses81 h r
def clT (o : Option Nat) : LV := .tup [I (o.getD 0 : Nat), Bo o.isSome]

set_option maxHeartbeats 1000000 in
theorem ceiling73 (l : List Jb) (r : Int) (hl : Fit l) : Pure Try.prog 73 [.ro 7 (l.map Jb.lv), I r] (clT (cl l r l.length)) := by
  have hl0 := hl.1
  refine lcalls_go (rts := [.tmp 4, .tmp 5]) Try.func73 rfl rfl rfl rfl rfl ?_
  refine WC.on mixed rfl ?_
  simp -dsimp
  refine new_block fun b hb => ?_
  simp -dsimp
  refine WC.view 3 (y := .adr [I r]) (τ := []) (by simpa -dsimp using View.box (τ := []) (B := ⟨b, 1, 1⟩) (x := I r) rfl) ?_
  repeat' first
    | refine WC.on mixed rfl ?_
    | (refine new_block fun b hb => ?_; try simp at hb)
    | simp -dsimp []
    | simp -dsimp (disch := omega) only [w64]
    | refine And.intro (by omega) ?_
    | simp -dsimp [*]
    | refine And.intro ?_ ?_
    | intro h
    | done
  refine WC.loop (fun m fr σ => ∃ i : Nat, i ≤ l.length ∧ m = l.length - i ∧ σ = [] ∧ fr 0 = .ro 7 (l.map Jb.lv) ∧ fr 6 = I ((cl l r i).getD 0 : Nat) ∧ fr 7 = Bo (cl l r i).isSome ∧ fr 10 = .ro 7 (l.map Jb.lv) ∧ fr 11 = I l.length ∧ fr 12 = I i ∧ fr 3 = .adr [I r]) l.length ⟨0, by omega, by omega, rfl,  by simp -dsimp [cl]⟩ ?_
  rintro m fr σ ⟨i, hi, rfl, rfl, k0, k6, k7, k10, k11, k12, k3⟩
  refine WC.on mixed rfl ?_
  simp -dsimp [k0, k6, k7, k10, k11, k12, k3]
  refine WC.on mixed rfl ?_
  simp -dsimp
  refine ⟨fun hlt => ?_, fun hge => ?_⟩
  · have hse := hl.2 _ (List.getElem_mem hlt)
    have hcs := cl_succ (r := r) hlt
    cases hc : cl l r i with
    | none =>
      simp [hc] at k6 k7 hcs
      cases hu : usesR l[i] r
      · repeat' first
          | refine WC.on mixed rfl ?_
          | (refine new_block fun b hb => ?_; try simp at hb)
          | refine call_pure (contains77u _ _ hse) ?_
          | refine call_pure (bef63 l i _ hlt (by assumption) hl0) ?_
          | simp -dsimp [k0, k6, k7, k10, k11, k12, k3, hlt, hu]
          | simp -dsimp (disch := omega) only [w64]
          | refine And.intro (by omega) ?_
          | simp -dsimp [*]
          | refine And.intro ?_ ?_
          | intro h
          | done
        exact Round.go (l.length - (i + 1)) [] (by omega) (Sub.nil _) ⟨i + 1, by omega, rfl, rfl, by simp -dsimp [hcs, hu, k0, k6, k7, k10, k11, k12, k3]⟩
      · repeat' first
          | refine WC.on mixed rfl ?_
          | (refine new_block fun b hb => ?_; try simp at hb)
          | refine call_pure (contains77u _ _ hse) ?_
          | refine call_pure (bef63 l i _ hlt (by assumption) hl0) ?_
          | simp -dsimp [k0, k6, k7, k10, k11, k12, k3, hlt, hu]
          | simp -dsimp (disch := omega) only [w64]
          | refine And.intro (by omega) ?_
          | simp -dsimp [*]
          | refine And.intro ?_ ?_
          | intro h
          | done
        exact Round.go (l.length - (i + 1)) [] (by omega) (Sub.nil _) ⟨i + 1, by omega, rfl, rfl, by simp -dsimp [hcs, hu, k0, k6, k7, k10, k11, k12, k3]⟩
    | some q =>
      simp [hc] at k6 k7 hcs
      have hbl := (cl_lt hc).2.1
      cases hu : usesR l[i] r
      · repeat' first
          | refine WC.on mixed rfl ?_
          | (refine new_block fun b hb => ?_; try simp at hb)
          | refine call_pure (contains77u _ _ hse) ?_
          | refine call_pure (bef63 l i _ hlt (by assumption) hl0) ?_
          | simp -dsimp [k0, k6, k7, k10, k11, k12, k3, hlt, hu]
          | simp -dsimp (disch := omega) only [w64]
          | refine And.intro (by omega) ?_
          | simp -dsimp [*]
          | refine And.intro ?_ ?_
          | intro h
          | done
        exact Round.go (l.length - (i + 1)) [] (by omega) (Sub.nil _) ⟨i + 1, by omega, rfl, rfl, by simp -dsimp [hcs, hu, k0, k6, k7, k10, k11, k12, k3]⟩
      · cases hbf : bef l i q
        · repeat' first
            | refine WC.on mixed rfl ?_
            | (refine new_block fun b hb => ?_; try simp at hb)
            | refine call_pure (contains77u _ _ hse) ?_
            | refine call_pure (bef63 l i _ hlt (by assumption) hl0) ?_
            | simp -dsimp [k0, k6, k7, k10, k11, k12, k3, hlt, hu, hbf]
            | simp -dsimp (disch := omega) only [w64]
            | refine And.intro (by omega) ?_
            | simp -dsimp [*]
            | refine And.intro ?_ ?_
            | intro h
            | done
          exact Round.go (l.length - (i + 1)) [] (by omega) (Sub.nil _) ⟨i + 1, by omega, rfl, rfl, by simp -dsimp [hcs, hu, hbf, k0, k6, k7, k10, k11, k12, k3]⟩
        · repeat' first
            | refine WC.on mixed rfl ?_
            | (refine new_block fun b hb => ?_; try simp at hb)
            | refine call_pure (contains77u _ _ hse) ?_
            | refine call_pure (bef63 l i _ hlt (by assumption) hl0) ?_
            | simp -dsimp [k0, k6, k7, k10, k11, k12, k3, hlt, hu, hbf]
            | simp -dsimp (disch := omega) only [w64]
            | refine And.intro (by omega) ?_
            | simp -dsimp [*]
            | refine And.intro ?_ ?_
            | intro h
            | done
          exact Round.go (l.length - (i + 1)) [] (by omega) (Sub.nil _) ⟨i + 1, by omega, rfl, rfl, by simp -dsimp [hcs, hu, hbf, k0, k6, k7, k10, k11, k12, k3]⟩
  · have : i = l.length := by omega
    subst this
    repeat' first
      | refine WC.on mixed rfl ?_
      | (refine new_block fun b hb => ?_; try simp at hb)
      | simp -dsimp [k0, k6, k7, k10, k11, k12, k3]
      | simp -dsimp (disch := omega) only [w64]
      | refine And.intro (by omega) ?_
      | simp -dsimp [*]
      | refine And.intro ?_ ?_
      | intro h
      | done
    all_goals first
      | rfl
      | simp [clT]

set_option maxHeartbeats 1000000 in
theorem ceiling72 (l : List Jb) (r : Int) (hl : Fit l) : Pure Try.prog 72 [.ro 7 (l.map Jb.lv), I r] (clT (cl l r l.length)) := by
  have hl0 := hl.1
  refine lcalls_go (rts := [.tmp 4, .tmp 5]) Try.func72 rfl rfl rfl rfl rfl ?_
  repeat' first
    | refine WC.on mixed rfl ?_
    | (refine new_block fun b hb => ?_; try simp at hb)
    | simp -dsimp []
    | simp -dsimp (disch := omega) only [w64]
    | refine And.intro (by omega) ?_
    | simp -dsimp [*]
    | refine And.intro ?_ ?_
    | intro h
    | done
  refine WC.loop (fun m fr σ => ∃ i : Nat, i ≤ l.length ∧ m = l.length - i ∧ σ = [] ∧ fr 0 = .ro 7 (l.map Jb.lv) ∧ fr 6 = I ((cl l r i).getD 0 : Nat) ∧ fr 7 = Bo (cl l r i).isSome ∧ fr 10 = .ro 7 (l.map Jb.lv) ∧ fr 11 = I l.length ∧ fr 12 = I i ∧ fr 1 = I r) l.length ⟨0, by omega, by omega, rfl,  by simp -dsimp [cl]⟩ ?_
  rintro m fr σ ⟨i, hi, rfl, rfl, k0, k6, k7, k10, k11, k12, k1⟩
  refine WC.on mixed rfl ?_
  simp -dsimp [k0, k6, k7, k10, k11, k12, k1]
  refine WC.on mixed rfl ?_
  simp -dsimp
  refine ⟨fun hlt => ?_, fun hge => ?_⟩
  · have hse := hl.2 _ (List.getElem_mem hlt)
    have hcs := cl_succ (r := r) hlt
    cases hc : cl l r i with
    | none =>
      simp [hc] at k6 k7 hcs
      cases hu : usesR l[i] r
      · repeat' first
          | refine WC.on mixed rfl ?_
          | (refine new_block fun b hb => ?_; try simp at hb)
          | refine call_pure (uses80 _ _ hse) ?_
          | refine call_pure (bef66 l i _ hlt (by assumption) hl0) ?_
          | simp -dsimp [k0, k6, k7, k10, k11, k12, k1, hlt, hu]
          | simp -dsimp (disch := omega) only [w64]
          | refine And.intro (by omega) ?_
          | simp -dsimp [*]
          | refine And.intro ?_ ?_
          | intro h
          | done
        exact Round.go (l.length - (i + 1)) [] (by omega) (Sub.nil _) ⟨i + 1, by omega, rfl, rfl, by simp -dsimp [hcs, hu, k0, k6, k7, k10, k11, k12, k1]⟩
      · repeat' first
          | refine WC.on mixed rfl ?_
          | (refine new_block fun b hb => ?_; try simp at hb)
          | refine call_pure (uses80 _ _ hse) ?_
          | refine call_pure (bef66 l i _ hlt (by assumption) hl0) ?_
          | simp -dsimp [k0, k6, k7, k10, k11, k12, k1, hlt, hu]
          | simp -dsimp (disch := omega) only [w64]
          | refine And.intro (by omega) ?_
          | simp -dsimp [*]
          | refine And.intro ?_ ?_
          | intro h
          | done
        exact Round.go (l.length - (i + 1)) [] (by omega) (Sub.nil _) ⟨i + 1, by omega, rfl, rfl, by simp -dsimp [hcs, hu, k0, k6, k7, k10, k11, k12, k1]⟩
    | some q =>
      simp [hc] at k6 k7 hcs
      have hbl := (cl_lt hc).2.1
      cases hu : usesR l[i] r
      · repeat' first
          | refine WC.on mixed rfl ?_
          | (refine new_block fun b hb => ?_; try simp at hb)
          | refine call_pure (uses80 _ _ hse) ?_
          | refine call_pure (bef66 l i _ hlt (by assumption) hl0) ?_
          | simp -dsimp [k0, k6, k7, k10, k11, k12, k1, hlt, hu]
          | simp -dsimp (disch := omega) only [w64]
          | refine And.intro (by omega) ?_
          | simp -dsimp [*]
          | refine And.intro ?_ ?_
          | intro h
          | done
        exact Round.go (l.length - (i + 1)) [] (by omega) (Sub.nil _) ⟨i + 1, by omega, rfl, rfl, by simp -dsimp [hcs, hu, k0, k6, k7, k10, k11, k12, k1]⟩
      · cases hbf : bef l i q
        · repeat' first
            | refine WC.on mixed rfl ?_
            | (refine new_block fun b hb => ?_; try simp at hb)
            | refine call_pure (uses80 _ _ hse) ?_
            | refine call_pure (bef66 l i _ hlt (by assumption) hl0) ?_
            | simp -dsimp [k0, k6, k7, k10, k11, k12, k1, hlt, hu, hbf]
            | simp -dsimp (disch := omega) only [w64]
            | refine And.intro (by omega) ?_
            | simp -dsimp [*]
            | refine And.intro ?_ ?_
            | intro h
            | done
          exact Round.go (l.length - (i + 1)) [] (by omega) (Sub.nil _) ⟨i + 1, by omega, rfl, rfl, by simp -dsimp [hcs, hu, hbf, k0, k6, k7, k10, k11, k12, k1]⟩
        · repeat' first
            | refine WC.on mixed rfl ?_
            | (refine new_block fun b hb => ?_; try simp at hb)
            | refine call_pure (uses80 _ _ hse) ?_
            | refine call_pure (bef66 l i _ hlt (by assumption) hl0) ?_
            | simp -dsimp [k0, k6, k7, k10, k11, k12, k1, hlt, hu, hbf]
            | simp -dsimp (disch := omega) only [w64]
            | refine And.intro (by omega) ?_
            | simp -dsimp [*]
            | refine And.intro ?_ ?_
            | intro h
            | done
          exact Round.go (l.length - (i + 1)) [] (by omega) (Sub.nil _) ⟨i + 1, by omega, rfl, rfl, by simp -dsimp [hcs, hu, hbf, k0, k6, k7, k10, k11, k12, k1]⟩
  · have : i = l.length := by omega
    subst this
    repeat' first
      | refine WC.on mixed rfl ?_
      | (refine new_block fun b hb => ?_; try simp at hb)
      | simp -dsimp [k0, k6, k7, k10, k11, k12, k1]
      | simp -dsimp (disch := omega) only [w64]
      | refine And.intro (by omega) ?_
      | simp -dsimp [*]
      | refine And.intro ?_ ?_
      | intro h
      | done
    all_goals first
      | rfl
      | simp [clT]
end Go.Proofs.Ytjamehpnclkjdaa
