/- The law RatesBounds, whole. It bears no statement of its own. -/
import Derived.Test.YtjamehpnclkjdaaR11
namespace Go.Proofs.Ytjamehpnclkjdaa
open Go Go.Ls
set_option linter.unusedVariables false
set_option linter.unusedSimpArgs false
set_option maxRecDepth 100000
attribute [local irreducible] Box drawF

theorem cnt_mul_le (l : List Db) (k a b c : Int) (hl : l.length ≤ 300) (h0 : 0 ≤ c) (h1 : c ≤ 16777216) : 0 ≤ (cnt l k a b : Int) * c ∧ (cnt l k a b : Int) * c ≤ 5033164800 := by
  have h := cnt_le l k a b
  exact ⟨Int.mul_nonneg (by omega) h0, Int.le_trans (Int.mul_le_mul (by omega : (cnt l k a b : Int) ≤ 300) h1 h0 (by omega)) (by omega)⟩

set_option maxHeartbeats 4000000 in
theorem law6 (ls : List Int) (p q r : Int) (hl : ls.length ≤ 1152921504606846976) : LCalls Try.prog 6 [.ro 1 (ls.map I), I p, I q, I r] [] fun r σ => r = Bo true := by
  have p1 := Int.emod_nonneg p (b := 3000) (by omega)
  have p2 := Int.emod_lt_of_pos p (b := 3000) (by omega)
  have q1 := Int.emod_nonneg q (b := 2000) (by omega)
  have q2 := Int.emod_lt_of_pos q (b := 2000) (by omega)
  have r1 := Int.emod_nonneg r (b := 101) (by omega)
  have r2 := Int.emod_lt_of_pos r (b := 101) (by omega)
  refine lcalls_go (rts := [.tmp 8]) Try.func6 rfl rfl rfl rfl rfl ?_
  repeat' first
    | refine WC.on mixed rfl ?_
    | (refine new_block fun b hb => ?_; try simp at hb)
    | refine draw_plan 7 [] [(0, 0), (1, 0), (2, 0), (3, 0), (4, 0), (6, 0), (9, 0), (10, 0), (11, 0), (12, 0), (13, 0), (15, 0), (19, 0), (20, 0), (21, 0), (22, 0), (23, 0), (25, 0), (7, 1), (16, 1), (5, 2), (8, 0), (14, 2), (17, 0), (18, 0), (24, 2), (26, 0), (27, 0), (28, 0)] (by kernel_rfl) rfl ?_
    | refine plan_nil ?_
    | refine plan_none rfl (by simp) ?_
    | refine plan_some rfl rfl (by simp) ?_
    | (refine call_new (new16 _) ?_; rintro _ _ ⟨b, rfl, rfl⟩)
    | (refine call_split [(dk _, deck ls 0)] [] (List.Perm.refl _) (fun _ _ => trivial) (rates23 ls 0 _ (Nat.zero_le _) hl) ?_; rintro _ _ ⟨x, a, ha, rfl, hxo, rfl⟩; have hx := hxo.small)
    | (refine call_split [(dk _, deck ls _)] [_] (List.Perm.swap _ _ _) (fun _ _ => trivial) (disturbs24 ls _ _ x 3000 true ha hl (by omega) (by omega)) ?_; rintro v σ ⟨a2, l, ha2, hd, hown⟩; simp -dsimp; refine WC.view 11 (y := .ro 5 (l.map Db.lv)) (τ := [(⟨_, 6, 6⟩, [x.lv])]) (by simpa -dsimp using (View.own (hown.app _) (by simp)).mono (Sub.refl _) (Sub.skip _ (Sub.refl _))) ?_; clear hown; have hlen := hd.1; have hbd := fun h => bound_of (x := x) (l := l) h (r % 101) (q % 2000) (p % 3000) q1 r1; have g1 := cnt_mul_le l 1 (p % 3000) (p % 3000 + q % 2000) x.de (by omega) hx.de.1 hx.de.2; have g2 := cnt_mul_le l 2 (p % 3000) (p % 3000 + q % 2000) x.pa (by omega) hx.pa.1 hx.pa.2; have g3 := cnt_mul_le l 3 (p % 3000) (p % 3000 + q % 2000) (r % 101) (by omega) r1 (by omega))
    | refine call_pure (mod25 _ _ (by omega) (by omega)) ?_
    | refine call_pure (check28 _ l (by omega)) ?_
    | refine call_pure (count30 l _ _ _ (by omega)) ?_
    | refine call_pure (most32 _ _ _ hx (by omega) (by omega) (by omega) (by omega)) ?_
    | refine call_pure awake22 ?_
    | simp -dsimp []
    | simp -dsimp (disch := omega) only [w64]
    | refine And.intro (by omega) ?_
    | simp -dsimp [*]
    | refine And.intro ?_ ?_
    | intro h
    | done
  all_goals first
    | exact ⟨_, Sub.refl _⟩
    | (exfalso; have := hbd (by assumption); omega)
end Go.Proofs.Ytjamehpnclkjdaa
