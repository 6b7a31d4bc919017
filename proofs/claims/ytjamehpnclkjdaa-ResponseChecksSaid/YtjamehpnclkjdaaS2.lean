/- Who is before whom; jobs that are valid. It bears no statement of its own. -/
import Derived.Test.YtjamehpnclkjdaaS1
namespace Go.Proofs.Ytjamehpnclkjdaa
open Go Go.Ls
set_option linter.unusedVariables false
set_option linter.unusedSimpArgs false
set_option maxRecDepth 100000
attribute [local irreducible] Box drawF

theorem within74 (a b c : Int) : Pure Try.prog 74 [I a, I b, I c] (Bo (decide (b ≤ a) && decide (a ≤ c))) := by
  refine lcalls_go (rts := [.tmp 6]) Try.func74 rfl rfl rfl rfl rfl ?_
  repeat' first
    | refine WC.on mixed rfl ?_
    | (refine new_block fun b hb => ?_; try simp at hb)
    | simp -dsimp []
    | simp -dsimp (disch := omega) only [w64]
    | refine And.intro (by omega) ?_
    | simp -dsimp [*]
    | refine And.intro ?_ ?_
    | intro h
    | done
  all_goals grind

theorem within79 (a b c : Int) : Pure Try.prog 79 [I a, I b, I c] (Bo (decide (b ≤ a) && decide (a ≤ c))) := by
  refine lcalls_go (rts := [.tmp 6]) Try.func79 rfl rfl rfl rfl rfl ?_
  repeat' first
    | refine WC.on mixed rfl ?_
    | (refine new_block fun b hb => ?_; try simp at hb)
    | simp -dsimp []
    | simp -dsimp (disch := omega) only [w64]
    | refine And.intro (by omega) ?_
    | simp -dsimp [*]
    | refine And.intro ?_ ?_
    | intro h
    | done
  all_goals grind

theorem bef63 (l : List Jb) (i j : Nat) (hi : i < l.length) (hj : j < l.length) (hl : l.length ≤ 1152921504606846976) : Pure Try.prog 63 [.ro 7 (l.map Jb.lv), I i, I j] (Bo (bef l i j)) := by
  have hb := bef_eq hi hj
  refine lcalls_go (rts := [.tmp 6]) Try.func63 rfl rfl rfl rfl rfl ?_
  repeat' first
    | refine WC.on mixed rfl ?_
    | (refine new_block fun b hb => ?_; try simp at hb)
    | refine draw_plan 3 [] [(0, 0), (1, 0), (2, 0), (3, 0), (5, 0), (6, 0), (7, 0), (8, 0), (4, 1), (9, 1), (10, 0), (11, 0), (12, 0), (13, 0), (14, 0), (15, 0), (17, 0), (18, 0), (19, 0), (20, 0), (16, 1), (21, 1), (22, 0), (23, 0), (24, 0), (25, 0), (26, 0), (27, 0), (28, 0), (29, 0)] (by kernel_rfl) rfl ?_
    | refine plan_nil ?_
    | refine plan_none rfl (by simp) ?_
    | refine plan_some rfl rfl (by simp) ?_
    | refine call_pure (within74 _ _ _) ?_
    | simp -dsimp [hi, hj]
    | simp -dsimp (disch := omega) only [w64]
    | refine And.intro (by omega) ?_
    | simp -dsimp [*]
    | refine And.intro ?_ ?_
    | intro h
    | done
  all_goals grind

theorem bef66 (l : List Jb) (i j : Nat) (hi : i < l.length) (hj : j < l.length) (hl : l.length ≤ 1152921504606846976) : Pure Try.prog 66 [.ro 7 (l.map Jb.lv), I i, I j] (Bo (bef l i j)) := by
  have hb := bef_eq hi hj
  refine lcalls_go (rts := [.tmp 6]) Try.func66 rfl rfl rfl rfl rfl ?_
  repeat' first
    | refine WC.on mixed rfl ?_
    | (refine new_block fun b hb => ?_; try simp at hb)
    | refine draw_plan 3 [] [(0, 0), (1, 0), (2, 0), (3, 0), (5, 0), (6, 0), (7, 0), (8, 0), (4, 1), (9, 1), (10, 0), (11, 0), (12, 0), (13, 0), (14, 0), (15, 0), (17, 0), (18, 0), (19, 0), (20, 0), (16, 1), (21, 1), (22, 0), (23, 0), (24, 0), (25, 0), (26, 0), (27, 0), (28, 0), (29, 0)] (by kernel_rfl) rfl ?_
    | refine plan_nil ?_
    | refine plan_none rfl (by simp) ?_
    | refine plan_some rfl rfl (by simp) ?_
    | refine call_pure (within74 _ _ _) ?_
    | simp -dsimp [hi, hj]
    | simp -dsimp (disch := omega) only [w64]
    | refine And.intro (by omega) ?_
    | simp -dsimp [*]
    | refine And.intro ?_ ?_
    | intro h
    | done
  all_goals grind
end Go.Proofs.Ytjamehpnclkjdaa
