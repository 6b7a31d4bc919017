/- A cut between two pieces of code; equal answers. It bears no statement of its own. -/
import Derived.Test.YtjamehpnclkjdaaS18
import Derived.Test.YtjamehpnclkjdaaS15
import Derived.Test.YtjamehpnclkjdaaLq
namespace Go.Proofs.Ytjamehpnclkjdaa
open Go Go.Ls
set_option linter.unusedVariables false
set_option linter.unusedSimpArgs false
set_option maxRecDepth 100000
attribute [local irreducible] Box drawF

theorem rtT_tup (l : List Jb) (x : Rt) (ins miss i : Int) : ∃ a e, rtT l x ins miss i = .tup [I a, I e] := by
  unfold rtT tmT
  split
  · split
    · exact ⟨_, _, rfl⟩
    · exact ⟨_, _, rfl⟩
  · exact ⟨_, _, rfl⟩
theorem slack_new (l : List Jb) (x : Rt) (i ins miss : Int) (hl : Fit l) : LCalls Try.prog 41 [.ro 7 (l.map Jb.lv), x.lv, I ins, I miss, I i] [] fun r σ => SlackR l x ins miss i r [] ∧ σ = [] :=
  (slack41 l x i ins miss hl).seen fun r σ h => ⟨r, [], View.of_sub (Sub.nil _), h, rfl⟩
theorem slack_ref (l : List Jb) (x : Rt) (i ins miss : Int) (hl : Fit l) : LCalls Try.prog 43 [.ro 7 (l.map Jb.lv), x.lv, I ins, I miss, I i] [] fun r σ => SlackR l x ins miss i r [] ∧ σ = [] :=
  (slack43 l x i ins miss hl).seen fun r σ h => ⟨r, [], View.of_sub (Sub.nil _), h, rfl⟩
theorem allV_len (l : List Jb) (x : Rt) (ins miss : Int) : (allV l x ins miss).2.length ≤ 6 := by
  unfold allV
  split
  · rename_i hc
    split
    · rename_i al h
      have := (ans_facts h).1
      have := hc.1.1
      simp only
      omega
    · simp
  · simp

theorem same44 (al : List An) (hl : al.length ≤ 1152921504606846976) : Pure Try.prog 44 [.ro 2 (al.map An.lv), .ro 2 (al.map An.lv)] (Bo true) := by
  refine lcalls_go (rts := [.tmp 4]) Try.func44 rfl rfl rfl rfl rfl ?_
  repeat' first
    | refine WC.on mixed rfl ?_
    | (refine new_block fun b hb => ?_; try simp at hb)
    | simp -dsimp []
    | simp -dsimp (disch := omega) only [w64]
    | refine And.intro (by omega) ?_
    | simp -dsimp [*]
    | refine And.intro ?_ ?_
    | intro h
    | done
  refine WC.loop (fun m fr σ => ∃ i : Nat, i ≤ al.length ∧ m = al.length - i ∧ σ = [] ∧ fr 0 = .ro 2 (al.map An.lv) ∧ fr 1 = .ro 2 (al.map An.lv) ∧ fr 11 = .ro 2 (al.map An.lv) ∧ fr 12 = I al.length ∧ fr 13 = I i) al.length ⟨0, by omega, by omega, rfl,  by (simp -dsimp [])⟩ ?_
  rintro m fr σ ⟨i, hi, rfl, rfl, k0, k1, k11, k12, k13⟩
  refine WC.on mixed rfl ?_
  simp -dsimp [k0, k1, k11, k12, k13]
  refine WC.on mixed rfl ?_
  simp -dsimp
  refine ⟨fun hlt => ?_, fun hge => ?_⟩
  · repeat' first
      | refine WC.on mixed rfl ?_
      | (refine new_block fun b hb => ?_; try simp at hb)
      | refine draw_plan 6 [] [(0, 0), (1, 0), (2, 0), (4, 0), (5, 0), (6, 0), (3, 1), (7, 1), (8, 0)] (by kernel_rfl) rfl ?_
      | refine plan_nil ?_
      | refine plan_none rfl (by simp) ?_
      | refine plan_some rfl rfl (by simp) ?_
      | simp -dsimp [k0, k1, k11, k12, k13, hlt]
      | simp -dsimp (disch := omega) only [w64]
      | refine And.intro (by omega) ?_
      | simp -dsimp [*]
      | refine And.intro ?_ ?_
      | intro h
      | done
    all_goals exact Round.go (al.length - (i + 1)) [] (by omega) (Sub.nil _) ⟨i + 1, by omega, rfl, rfl, by simp -dsimp [k0, k1, k11, k12, k13]⟩
  · repeat' first
      | refine WC.on mixed rfl ?_
      | (refine new_block fun b hb => ?_; try simp at hb)
      | simp -dsimp [k0, k1, k11, k12, k13]
      | simp -dsimp (disch := omega) only [w64]
      | refine And.intro (by omega) ?_
      | simp -dsimp [*]
      | refine And.intro ?_ ?_
      | intro h
      | done
end Go.Proofs.Ytjamehpnclkjdaa
