/- Blocking. It bears no statement of its own. -/
import Derived.Test.YtjamehpnclkjdaaS6
namespace Go.Proofs.Ytjamehpnclkjdaa
open Go Go.Ls
set_option linter.unusedVariables false
set_option linter.unusedSimpArgs false
set_option maxRecDepth 100000
attribute [local irreducible] Box drawF

theorem blkA_succ {l : List Jb} {i k : Nat} {ins : Int} (h : k < l.length) : blkA l i ins (k + 1) = if bef l i k then holds l i l[k].se (max (blkA l i ins k) ins) else blkA l i ins k := by
  rw [blkA, List.getElem?_eq_getElem h]
theorem holds_succ {l : List Jb} {i : Nat} {hs : List Hd} {m : Int} {q : Nat} (h : q < hs.length) : holds l i (hs.take (q + 1)) m = holdM l i (holds l i (hs.take q) m) hs[q] := by
  unfold holds
  rw [List.take_succ_eq_append_getElem h, List.foldl_append]
  rfl

set_option maxHeartbeats 1000000 in
theorem blocking61 (l : List Jb) (i : Nat) (ins : Int) (hi : i < l.length) (hl : Fit l) : Pure Try.prog 61 [.ro 7 (l.map Jb.lv), I i, I ins] (I (blk l i ins)) := by
  have hl0 := hl.1
  refine lcalls_go (rts := [.tmp 6]) Try.func61 rfl rfl rfl rfl rfl ?_
  repeat' first
    | refine WC.on mixed rfl ?_
    | (refine new_block fun b hb => ?_; try simp at hb)
    | simp -dsimp []
    | simp -dsimp (disch := omega) only [w64]
    | refine And.intro (by omega) ?_
    | simp -dsimp [*]
    | refine And.intro ?_ ?_
    | intro h
    | done
  refine WC.loop (fun m fr σ => ∃ k : Nat, k ≤ l.length ∧ m = l.length - k ∧ σ = [] ∧ fr 0 = .ro 7 (l.map Jb.lv) ∧ fr 1 = I i ∧ fr 2 = I ins ∧ fr 14 = .ro 7 (l.map Jb.lv) ∧ fr 15 = I l.length ∧ fr 16 = I k ∧ fr 7 = I (blkA l i ins k)) l.length ⟨0, by omega, by omega, rfl,  by simp -dsimp [blkA]⟩ ?_
  rintro m fr σ ⟨k, hk, rfl, rfl, k0, k1, k2, k14, k15, k16, k7⟩
  refine WC.on mixed rfl ?_
  simp -dsimp [k0, k1, k2, k14, k15, k16, k7]
  refine WC.on mixed rfl ?_
  simp -dsimp
  refine ⟨fun hlt => ?_, fun hge => ?_⟩
  · have hse := hl.2 _ (List.getElem_mem hlt)
    have hbs := blkA_succ (i := i) (ins := ins) hlt
    repeat' first
      | refine WC.on mixed rfl ?_
      | (refine new_block fun b hb => ?_; try simp at hb)
      | refine call_pure (bef63 l i k hi hlt hl0) ?_
      | simp -dsimp [k0, k1, k2, k14, k15, k16, k7, hlt]
      | simp -dsimp (disch := omega) only [w64]
      | refine And.intro (by omega) ?_
      | simp -dsimp [*]
      | refine And.intro ?_ ?_
      | intro h
      | done
    · refine Round.go (l.length - (k + 1)) [] (by omega) (Sub.nil _) ⟨k + 1, by omega, rfl, rfl, by simp -dsimp [hbs, *]⟩
    have hbf : bef l i k = true := by simpa using h
    rw [if_pos hbf] at hbs
    refine WC.drop (τ := []) (Sub.nil _) ?_
    refine WC.loop (fun m fr σ => ∃ q : Nat, q ≤ l[k].se.length ∧ m = l[k].se.length - q ∧ σ = [] ∧ fr 0 = .ro 7 (l.map Jb.lv) ∧ fr 1 = I i ∧ fr 2 = I ins ∧ fr 14 = .ro 7 (l.map Jb.lv) ∧ fr 15 = I l.length ∧ fr 16 = I k ∧ fr 7 = I (holds l i (l[k].se.take q) (max (blkA l i ins k) ins)) ∧ fr 30 = .ro 2 (l[k].se.map Hd.lv) ∧ fr 31 = I l[k].se.length ∧ fr 32 = I q) l[k].se.length ⟨0, by omega, by omega, rfl,  by simp -dsimp [k0, k1, k2, k14, k15, k16, k7, holds]⟩ ?_
    rintro m fr σ ⟨q, hq, rfl, rfl, k0, k1, k2, k14, k15, k16, k7, k30, k31, k32⟩
    refine WC.on mixed rfl ?_
    simp -dsimp [k0, k1, k2, k14, k15, k16, k7, k30, k31, k32]
    refine WC.on mixed rfl ?_
    simp -dsimp
    refine ⟨fun hltq => ?_, fun hgeq => ?_⟩
    · have hhs := holds_succ (l := l) (i := i) (m := max (blkA l i ins k) ins) hltq
      cases hc : cl l l[k].se[q].re l.length with
      | none =>
        have hr : reach l i l[k].se[q].re = false := by simp [reach, hc]
        simp [holdM, hr] at hhs
        repeat' first
          | refine WC.on mixed rfl ?_
          | (refine new_block fun b hb => ?_; try simp at hb)
          | refine call_pure (ceiling73 l _ hl) ?_
          | simp -dsimp [k0, k1, k2, k14, k15, k16, k7, k30, k31, k32, hltq, hc, clT]
          | simp -dsimp (disch := omega) only [w64]
          | refine And.intro (by omega) ?_
          | simp -dsimp [*]
          | refine And.intro ?_ ?_
          | intro h
          | done
        all_goals exact Round.go (l[k].se.length - (q + 1)) [] (by omega) (Sub.nil _) ⟨q + 1, by omega, rfl, rfl, by simp -dsimp [hhs, k0, k1, k2, k14, k15, k16, k7, k30, k31, k32]⟩
      | some c =>
        have hr : reach l i l[k].se[q].re = (decide (c = i) || bef l c i) := by simp [reach, hc]
        have hcl := (cl_lt hc).2.1
        simp [holdM, hr] at hhs
        by_cases hci : c = i
        · simp [hci] at hhs
          repeat' first
            | refine WC.on mixed rfl ?_
            | (refine new_block fun b hb => ?_; try simp at hb)
            | refine call_pure (ceiling73 l _ hl) ?_
            | refine call_pure (bef63 l c i hcl hi hl0) ?_
            | simp -dsimp [k0, k1, k2, k14, k15, k16, k7, k30, k31, k32, hltq, hc, clT, hci]
            | simp -dsimp (disch := omega) only [w64]
            | refine And.intro (by omega) ?_
            | simp -dsimp [*]
            | refine And.intro ?_ ?_
            | intro h
            | done
          all_goals exact Round.go (l[k].se.length - (q + 1)) [] (by omega) (Sub.nil _) ⟨q + 1, by omega, rfl, rfl, by simp -dsimp [hhs, k0, k1, k2, k14, k15, k16, k7, k30, k31, k32]⟩
        · simp [hci] at hhs
          cases hcb : bef l c i
          all_goals simp [hcb] at hhs
          all_goals
            repeat' first
              | refine WC.on mixed rfl ?_
              | (refine new_block fun b hb => ?_; try simp at hb)
              | refine call_pure (ceiling73 l _ hl) ?_
              | refine call_pure (bef63 l c i hcl hi hl0) ?_
              | simp -dsimp [k0, k1, k2, k14, k15, k16, k7, k30, k31, k32, hltq, hc, clT, hci, hcb]
              | simp -dsimp (disch := omega) only [w64]
              | refine And.intro (by omega) ?_
              | simp -dsimp [*]
              | refine And.intro ?_ ?_
              | intro h
              | done
          all_goals exact Round.go (l[k].se.length - (q + 1)) [] (by omega) (Sub.nil _) ⟨q + 1, by omega, rfl, rfl, by simp -dsimp [hhs, k0, k1, k2, k14, k15, k16, k7, k30, k31, k32]⟩
    · have e : q = l[k].se.length := by omega
      subst e
      rw [List.take_length] at k7
      repeat' first
        | refine WC.on mixed rfl ?_
        | (refine new_block fun b hb => ?_; try simp at hb)
        | simp -dsimp [k0, k1, k2, k14, k15, k16, k7, k30, k31, k32]
        | simp -dsimp (disch := omega) only [w64]
        | refine And.intro (by omega) ?_
        | simp -dsimp [*]
        | refine And.intro ?_ ?_
        | intro h
        | done
      refine Round.go (l.length - (k + 1)) [] (by omega) (Sub.nil _) ⟨k + 1, by omega, rfl, rfl, by simp -dsimp [hbs, k0, k1, k2, k14, k15, k16, k7, k30, k31, k32]⟩
  · have : k = l.length := by omega
    subst this
    repeat' first
      | refine WC.on mixed rfl ?_
      | (refine new_block fun b hb => ?_; try simp at hb)
      | simp -dsimp [k0, k1, k2, k14, k15, k16, k7]
      | simp -dsimp (disch := omega) only [w64]
      | refine And.intro (by omega) ?_
      | simp -dsimp [*]
      | refine And.intro ?_ ?_
      | intro h
      | done
    all_goals rfl

set_option maxHeartbeats 1000000 in
theorem blocking59 (l : List Jb) (i : Nat) (ins : Int) (hi : i < l.length) (hl : Fit l) : Pure Try.prog 59 [.ro 7 (l.map Jb.lv), I i, I ins] (I (blk l i ins)) := by
  have hl0 := hl.1
  refine lcalls_go (rts := [.tmp 6]) Try.func59 rfl rfl rfl rfl rfl ?_
  repeat' first
    | refine WC.on mixed rfl ?_
    | (refine new_block fun b hb => ?_; try simp at hb)
    | simp -dsimp []
    | simp -dsimp (disch := omega) only [w64]
    | refine And.intro (by omega) ?_
    | simp -dsimp [*]
    | refine And.intro ?_ ?_
    | intro h
    | done
  refine WC.loop (fun m fr σ => ∃ k : Nat, k ≤ l.length ∧ m = l.length - k ∧ σ = [] ∧ fr 0 = .ro 7 (l.map Jb.lv) ∧ fr 1 = I i ∧ fr 2 = I ins ∧ fr 14 = .ro 7 (l.map Jb.lv) ∧ fr 15 = I l.length ∧ fr 16 = I k ∧ fr 7 = I (blkA l i ins k)) l.length ⟨0, by omega, by omega, rfl,  by simp -dsimp [blkA]⟩ ?_
  rintro m fr σ ⟨k, hk, rfl, rfl, k0, k1, k2, k14, k15, k16, k7⟩
  refine WC.on mixed rfl ?_
  simp -dsimp [k0, k1, k2, k14, k15, k16, k7]
  refine WC.on mixed rfl ?_
  simp -dsimp
  refine ⟨fun hlt => ?_, fun hge => ?_⟩
  · have hse := hl.2 _ (List.getElem_mem hlt)
    have hbs := blkA_succ (i := i) (ins := ins) hlt
    repeat' first
      | refine WC.on mixed rfl ?_
      | (refine new_block fun b hb => ?_; try simp at hb)
      | refine call_pure (bef66 l i k hi hlt hl0) ?_
      | simp -dsimp [k0, k1, k2, k14, k15, k16, k7, hlt]
      | simp -dsimp (disch := omega) only [w64]
      | refine And.intro (by omega) ?_
      | simp -dsimp [*]
      | refine And.intro ?_ ?_
      | intro h
      | done
    · refine Round.go (l.length - (k + 1)) [] (by omega) (Sub.nil _) ⟨k + 1, by omega, rfl, rfl, by simp -dsimp [hbs, *]⟩
    have hbf : bef l i k = true := by simpa using h
    rw [if_pos hbf] at hbs
    refine WC.drop (τ := []) (Sub.nil _) ?_
    refine WC.loop (fun m fr σ => ∃ q : Nat, q ≤ l[k].se.length ∧ m = l[k].se.length - q ∧ σ = [] ∧ fr 0 = .ro 7 (l.map Jb.lv) ∧ fr 1 = I i ∧ fr 2 = I ins ∧ fr 14 = .ro 7 (l.map Jb.lv) ∧ fr 15 = I l.length ∧ fr 16 = I k ∧ fr 7 = I (holds l i (l[k].se.take q) (max (blkA l i ins k) ins)) ∧ fr 30 = .ro 2 (l[k].se.map Hd.lv) ∧ fr 31 = I l[k].se.length ∧ fr 32 = I q) l[k].se.length ⟨0, by omega, by omega, rfl,  by simp -dsimp [k0, k1, k2, k14, k15, k16, k7, holds]⟩ ?_
    rintro m fr σ ⟨q, hq, rfl, rfl, k0, k1, k2, k14, k15, k16, k7, k30, k31, k32⟩
    refine WC.on mixed rfl ?_
    simp -dsimp [k0, k1, k2, k14, k15, k16, k7, k30, k31, k32]
    refine WC.on mixed rfl ?_
    simp -dsimp
    refine ⟨fun hltq => ?_, fun hgeq => ?_⟩
    · have hhs := holds_succ (l := l) (i := i) (m := max (blkA l i ins k) ins) hltq
      cases hc : cl l l[k].se[q].re l.length with
      | none =>
        have hr : reach l i l[k].se[q].re = false := by simp [reach, hc]
        simp [holdM, hr] at hhs
        repeat' first
          | refine WC.on mixed rfl ?_
          | (refine new_block fun b hb => ?_; try simp at hb)
          | refine call_pure (ceiling72 l _ hl) ?_
          | simp -dsimp [k0, k1, k2, k14, k15, k16, k7, k30, k31, k32, hltq, hc, clT]
          | simp -dsimp (disch := omega) only [w64]
          | refine And.intro (by omega) ?_
          | simp -dsimp [*]
          | refine And.intro ?_ ?_
          | intro h
          | done
        all_goals exact Round.go (l[k].se.length - (q + 1)) [] (by omega) (Sub.nil _) ⟨q + 1, by omega, rfl, rfl, by simp -dsimp [hhs, k0, k1, k2, k14, k15, k16, k7, k30, k31, k32]⟩
      | some c =>
        have hr : reach l i l[k].se[q].re = (decide (c = i) || bef l c i) := by simp [reach, hc]
        have hcl := (cl_lt hc).2.1
        simp [holdM, hr] at hhs
        by_cases hci : c = i
        · simp [hci] at hhs
          repeat' first
            | refine WC.on mixed rfl ?_
            | (refine new_block fun b hb => ?_; try simp at hb)
            | refine call_pure (ceiling72 l _ hl) ?_
            | refine call_pure (bef66 l c i hcl hi hl0) ?_
            | simp -dsimp [k0, k1, k2, k14, k15, k16, k7, k30, k31, k32, hltq, hc, clT, hci]
            | simp -dsimp (disch := omega) only [w64]
            | refine And.intro (by omega) ?_
            | simp -dsimp [*]
            | refine And.intro ?_ ?_
            | intro h
            | done
          all_goals exact Round.go (l[k].se.length - (q + 1)) [] (by omega) (Sub.nil _) ⟨q + 1, by omega, rfl, rfl, by simp -dsimp [hhs, k0, k1, k2, k14, k15, k16, k7, k30, k31, k32]⟩
        · simp [hci] at hhs
          cases hcb : bef l c i
          all_goals simp [hcb] at hhs
          all_goals
            repeat' first
              | refine WC.on mixed rfl ?_
              | (refine new_block fun b hb => ?_; try simp at hb)
              | refine call_pure (ceiling72 l _ hl) ?_
              | refine call_pure (bef66 l c i hcl hi hl0) ?_
              | simp -dsimp [k0, k1, k2, k14, k15, k16, k7, k30, k31, k32, hltq, hc, clT, hci, hcb]
              | simp -dsimp (disch := omega) only [w64]
              | refine And.intro (by omega) ?_
              | simp -dsimp [*]
              | refine And.intro ?_ ?_
              | intro h
              | done
          all_goals exact Round.go (l[k].se.length - (q + 1)) [] (by omega) (Sub.nil _) ⟨q + 1, by omega, rfl, rfl, by simp -dsimp [hhs, k0, k1, k2, k14, k15, k16, k7, k30, k31, k32]⟩
    · have e : q = l[k].se.length := by omega
      subst e
      rw [List.take_length] at k7
      repeat' first
        | refine WC.on mixed rfl ?_
        | (refine new_block fun b hb => ?_; try simp at hb)
        | simp -dsimp [k0, k1, k2, k14, k15, k16, k7, k30, k31, k32]
        | simp -dsimp (disch := omega) only [w64]
        | refine And.intro (by omega) ?_
        | simp -dsimp [*]
        | refine And.intro ?_ ?_
        | intro h
        | done
      refine Round.go (l.length - (k + 1)) [] (by omega) (Sub.nil _) ⟨k + 1, by omega, rfl, rfl, by simp -dsimp [hbs, k0, k1, k2, k14, k15, k16, k7, k30, k31, k32]⟩
  · have : k = l.length := by omega
    subst this
    repeat' first
      | refine WC.on mixed rfl ?_
      | (refine new_block fun b hb => ?_; try simp at hb)
      | simp -dsimp [k0, k1, k2, k14, k15, k16, k7]
      | simp -dsimp (disch := omega) only [w64]
      | refine And.intro (by omega) ?_
      | simp -dsimp [*]
      | refine And.intro ?_ ?_
      | intro h
      | done
    all_goals rfl
end Go.Proofs.Ytjamehpnclkjdaa
