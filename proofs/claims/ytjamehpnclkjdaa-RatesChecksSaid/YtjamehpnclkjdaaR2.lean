/- The deck that the inputs are drawn from. It bears no statement of its own. -/
import Derived.Test.YtjamehpnclkjdaaR1
namespace Go.Proofs.Ytjamehpnclkjdaa
open Go Go.Ls
set_option linter.unusedVariables false
set_option linter.unusedSimpArgs false
set_option maxRecDepth 100000
attribute [local irreducible] Box drawF

theorem neg_lt_tmod (a b : Int) (h : 0 < b) : -b < a.tmod b := by
  have := Int.tmod_lt_of_pos (-a) h
  rw [Int.neg_tmod] at this
  omega

theorem tmod_mod (a b : Int) (h : 0 < b) : (a.tmod b + b).tmod b = a % b := by
  have h2 := Int.tmod_lt_of_pos a h
  have h3 := neg_lt_tmod a b h
  rw [Int.tmod_eq_emod_of_nonneg (by omega), Int.add_emod_right, Int.tmod_eq_emod]
  split
  · simp
  · rw [Int.natAbs_of_nonneg (by omega), Int.sub_emod_right, Int.emod_emod_of_dvd _ (Int.dvd_refl b)]

theorem mod25 (a b : Int) (h0 : 0 < b) (h1 : b ≤ 4611686018427387904) : Pure Try.prog 25 [I a, I b] (I (a % b)) := by
  have h2 := Int.tmod_lt_of_pos a h0
  have h3 := neg_lt_tmod a b h0
  refine lcalls_go (rts := [.tmp 4]) Try.func25 rfl rfl rfl rfl rfl ?_
  repeat' first
    | refine WC.on mixed rfl ?_
    | refine new_block fun b hb => ?_
    | simp -dsimp [tmod_mod a b h0]
    | simp -dsimp (disch := omega) only [w64]
    | refine And.intro (by omega) ?_
    | refine And.intro (fun h => ?_) (fun h => ?_)
    | done

/-- A deck. -/
abbrev dk (b : Nat) : Blk := ⟨b, 2, 2⟩
abbrev deck (ls : List Int) (a : Nat) : List LV := [.agg [.ro 1 (ls.map I), I a]]

theorem new16 (ls : List Int) : LCalls Try.prog 16 [.ro 1 (ls.map I)] [] fun r σ => ∃ b, r = .ref (dk b) 0 0 ∧ σ = [(dk b, deck ls 0)] := by
  refine lcalls_go (rts := [.tmp 2]) Try.func16 rfl rfl rfl rfl rfl ?_
  repeat' first
    | refine WC.on mixed rfl ?_
    | refine new_block fun b hb => ?_
    | simp -dsimp []
    | simp -dsimp (disch := omega) only [w64]
    | refine And.intro (by omega) ?_
    | refine And.intro (fun h => ?_) (fun h => ?_)
    | done
  exact Sub.refl _

theorem next18 (ls : List Int) (a b : Nat) (n : Int) (ha : a ≤ ls.length) (hl : ls.length ≤ 1152921504606846976) (h0 : 1 ≤ n) (h1 : n ≤ 1048576) :
    LCalls Try.prog 18 [.ref (dk b) 0 0, I n] [(dk b, deck ls a)] fun r σ => ∃ (a' : Nat) (v : Int), a' ≤ ls.length ∧ r = I v ∧ 0 ≤ v ∧ v < n ∧ σ = [(dk b, deck ls a')] := by
  refine lcalls_go (rts := [.tmp 4]) Try.func18 rfl rfl rfl rfl rfl ?_
  repeat' first
    | refine WC.on mixed rfl ?_
    | refine new_block fun b hb => ?_
    | refine draw_plan 1 [] [(0, 0), (1, 0), (2, 0), (4, 0), (5, 0), (6, 0), (3, 1), (7, 1), (8, 0), (9, 0), (10, 0), (11, 0), (12, 0), (13, 0)] (by kernel_rfl) rfl ?_
    | refine draw_plan 4 [] [(0, 0), (1, 0), (2, 0), (4, 0), (5, 0), (6, 0), (11, 0), (3, 1), (7, 1), (8, 0), (9, 0), (10, 1), (12, 2), (13, 0)] (by kernel_rfl) rfl ?_
    | refine plan_nil ?_
    | refine plan_none rfl (by simp) ?_
    | refine plan_some rfl rfl (by simp) ?_
    | refine call_pure (mod25 _ _ (by omega) (by omega)) ?_
    | simp -dsimp []
    | simp -dsimp (disch := omega) only [w64]
    | refine And.intro (by omega) ?_
    | refine And.intro (fun h => ?_) (fun h => ?_)
    | done
  · exact ⟨_, Sub.refl _, a, ha, by omega, rfl⟩
  · exact ⟨_, Sub.refl _, a, ha, by omega, rfl⟩
  rename_i hlt
  repeat' first
    | refine WC.on mixed rfl ?_
    | refine new_block fun b hb => ?_
    | refine draw_plan 1 [] [(0, 0), (1, 0), (2, 0), (4, 0), (5, 0), (6, 0), (3, 1), (7, 1), (8, 0), (9, 0), (10, 0), (11, 0), (12, 0), (13, 0)] (by kernel_rfl) rfl ?_
    | refine draw_plan 4 [] [(0, 0), (1, 0), (2, 0), (4, 0), (5, 0), (6, 0), (11, 0), (3, 1), (7, 1), (8, 0), (9, 0), (10, 1), (12, 2), (13, 0)] (by kernel_rfl) rfl ?_
    | refine plan_nil ?_
    | refine plan_none rfl (by simp) ?_
    | refine plan_some rfl rfl (by simp) ?_
    | refine call_pure (mod25 _ _ (by omega) (by omega)) ?_
    | simp -dsimp [hlt]
    | simp -dsimp (disch := omega) only [w64]
    | refine And.intro (by omega) ?_
    | refine And.intro (fun h => ?_) (fun h => ?_)
    | done
  exact ⟨_, Sub.refl _, a + 1, hlt, Int.emod_nonneg _ (by omega), Int.emod_lt_of_pos _ (by omega), rfl⟩
end Go.Proofs.Ytjamehpnclkjdaa
