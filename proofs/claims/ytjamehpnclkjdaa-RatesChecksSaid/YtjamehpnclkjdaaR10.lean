/- The law RatesCounts, whole. It bears no statement of its own. -/
import Derived.Test.YtjamehpnclkjdaaR9
namespace Go.Ls
open Go
set_option linter.unusedVariables false
theorem Own.app {sz : Nat} {v : LV} {xs : List LV} {σ τ : Heap} (h : Own sz v xs σ τ) (ρ : Heap) : Own sz v xs (σ ++ ρ) (τ ++ ρ) := by
  rcases h with ⟨rfl, rfl, hp⟩ | ⟨B, rfl, rfl, hp⟩
  · exact .inl ⟨rfl, rfl, hp.append_right ρ⟩
  · exact .inr ⟨B, rfl, rfl, hp.append_right ρ⟩
theorem View.mono {σ σ2 τ τ2 : Heap} {x y : LV} (h : View σ τ x y) (hs : Sub σ σ2) (ht : Sub τ2 τ) : View σ2 τ2 x y :=
  ⟨ht.trans (h.1.trans hs), fun w G v hG hh hv => (h.2 w G v (fun b hb hd => hG b hb (hs.dom hd)) (hh.sub hs) (hv.shrink fun b hb => hb.imp hs.dom _root_.id)).shrink fun b hb => hb.imp ht.dom _root_.id⟩
end Go.Ls
namespace Go.Proofs.Ytjamehpnclkjdaa
open Go Go.Ls
set_option linter.unusedVariables false
set_option linter.unusedSimpArgs false
set_option maxRecDepth 100000
attribute [local irreducible] Box drawF

theorem cnt_add (l : List Db) (k a b c : Int) (h1 : a ≤ b) (h2 : b ≤ c) : cnt l k a b + cnt l k b c = cnt l k a c := by
  induction l with
  | nil => rfl
  | cons d l ih =>
    simp only [cnt, List.countP_cons] at ih ⊢
    have : (if hit k a c d = true then 1 else 0) = (if hit k a b d = true then 1 else 0) + (if hit k b c d = true then 1 else 0) := by
      simp only [hit, Bool.and_eq_true, decide_eq_true_eq]
      split <;> split <;> split <;> omega
    omega
theorem cnt_none (l : List Db) (k a b : Int) (h : b ≤ a) : cnt l k a b = 0 := by
  unfold cnt
  rw [List.countP_eq_zero]
  intro d _
  simp only [hit, Bool.and_eq_true, decide_eq_true_eq]
  omega
theorem cnt_all (n : Int) (l : List Db) (h : ∀ d ∈ l, (0 ≤ d.t ∧ d.t < n) ∧ 1 ≤ d.k ∧ d.k ≤ 3) (hn : n ≤ 16777217) : cnt l 1 0 16777217 + cnt l 2 0 16777217 + cnt l 3 0 16777217 = l.length := by
  induction l with
  | nil => rfl
  | cons d l ih =>
    have ih := ih fun e he => h e (List.mem_cons_of_mem _ he)
    have hd := h d List.mem_cons_self
    simp only [cnt, List.countP_cons, List.length_cons] at ih ⊢
    have : (if hit 1 0 16777217 d = true then 1 else 0) + (if hit 2 0 16777217 d = true then 1 else 0) + (if hit 3 0 16777217 d = true then 1 else 0) = 1 := by
      simp only [hit, Bool.and_eq_true, decide_eq_true_eq]
      split <;> split <;> split <;> omega
    omega

set_option maxHeartbeats 4000000 in
theorem law7 (ls : List Int) (p q r : Int) (hl : ls.length ≤ 1152921504606846976) : LCalls Try.prog 7 [.ro 1 (ls.map I), I p, I q, I r] [] fun r σ => r = Bo true := by
  have p1 := Int.emod_nonneg p (b := 1500) (by omega)
  have p2 := Int.emod_lt_of_pos p (b := 1500) (by omega)
  have q1 := Int.emod_nonneg q (b := 1000) (by omega)
  have q2 := Int.emod_lt_of_pos q (b := 1000) (by omega)
  have r1 := Int.emod_nonneg r (b := 1000) (by omega)
  have r2 := Int.emod_lt_of_pos r (b := 1000) (by omega)
  refine lcalls_go (rts := [.tmp 8]) Try.func7 rfl rfl rfl rfl rfl ?_
  repeat' first
    | refine WC.on mixed rfl ?_
    | (refine new_block fun b hb => ?_; try simp at hb)
    | (refine call_new (new16 _) ?_; rintro _ _ ⟨b, rfl, rfl⟩)
    | (refine call_split [(dk _, deck ls 0)] [] (List.Perm.refl _) (fun _ _ => trivial) (rates23 ls 0 _ (Nat.zero_le _) hl) ?_; rintro _ _ ⟨x, a, ha, rfl, hxo, rfl⟩)
    | (refine call_split [(dk _, deck ls _)] [_] (List.Perm.swap _ _ _) (fun _ _ => trivial) (disturbs24 ls _ _ x 3000 true ha hl (by omega) (by omega)) ?_; rintro v σ ⟨a2, l, ha2, hd, hown⟩; simp -dsimp; refine WC.view 11 (y := .ro 5 (l.map Db.lv)) (τ := []) (by simpa -dsimp using (View.own (hown.app _) (by simp)).mono (Sub.refl _) (Sub.nil _)) ?_; clear hown)
    | refine call_pure (mod25 _ _ (by omega) (by omega)) ?_
    | simp -dsimp []
    | simp -dsimp (disch := omega) only [w64]
    | refine And.intro (by omega) ?_
    | simp -dsimp [*]
    | refine And.intro ?_ ?_
    | intro h
    | done
  clear hxo
  have hlen := hd.1
  have ht := cnt_all 3000 l hd.2 (by omega)
  have n0 := cnt_none l 1 (p % 1500 + q % 1000 + r % 1000) (p % 1500) (by omega)
  have a1 := cnt_add l 1 (p % 1500) (p % 1500 + q % 1000) (p % 1500 + q % 1000 + r % 1000) (by omega) (by omega)
  have a2 := cnt_add l 2 (p % 1500) (p % 1500 + q % 1000) (p % 1500 + q % 1000 + r % 1000) (by omega) (by omega)
  have a3 := cnt_add l 3 (p % 1500) (p % 1500 + q % 1000) (p % 1500 + q % 1000 + r % 1000) (by omega) (by omega)
  have b1 := cnt_le l 1 (p % 1500) (p % 1500 + q % 1000 + r % 1000)
  have b2 := cnt_le l 2 (p % 1500) (p % 1500 + q % 1000 + r % 1000)
  have b3 := cnt_le l 3 (p % 1500) (p % 1500 + q % 1000 + r % 1000)
  have w1 := w64 (n := p % 1500 + q % 1000) (by omega) (by omega)
  have w2 := w64 (n := p % 1500 + q % 1000 + r % 1000) (by omega) (by omega)
  refine WC.loop (fun m fr σ => ∃ i : Nat, (1 ≤ i ∧ i ≤ 4) ∧ m = 4 - i ∧ σ = [] ∧ fr 11 = .ro 5 (l.map Db.lv) ∧ fr 12 = I (p % 1500) ∧ fr 13 = I (p % 1500 + q % 1000) ∧ fr 14 = I (p % 1500 + q % 1000 + r % 1000) ∧
    fr 15 = I ([0, (cnt l 1 0 16777217 : Int), (cnt l 1 0 16777217 : Int) + cnt l 2 0 16777217, (l.length : Int)].getD (i - 1) 0) ∧ fr 16 = I i) 3 ⟨1, by simp -dsimp [w1, w2]⟩ ?_
  rintro m fr σ ⟨i, hi, rfl, rfl, k11, k12, k13, k14, k15, k16⟩
  have hi' : i = 1 ∨ i = 2 ∨ i = 3 ∨ i = 4 := by omega
  rcases hi' with rfl | rfl | rfl | rfl
  all_goals repeat' first
    | refine WC.on mixed rfl ?_
    | (refine new_block fun b hb => ?_; try simp at hb)
    | refine call_pure (count30 l _ _ _ (by omega)) ?_
    | refine call_pure awake22 ?_
    | simp -dsimp [k11, k12, k13, k14, k15, k16]
    | simp -dsimp (disch := omega) only [w64]
    | refine And.intro (by omega) ?_
    | simp -dsimp [*]
    | refine And.intro ?_ ?_
    | intro h
    | done
  · exact Round.go 2 [] (by omega) (Sub.nil _) ⟨2, by omega, rfl, rfl, by simp -dsimp [k11, k12, k13, k14]⟩
  · exact Round.go 1 [] (by omega) (Sub.nil _) ⟨3, by omega, rfl, rfl, by simp -dsimp [k11, k12, k13, k14]⟩
  · exact Round.go 0 [] (by omega) (Sub.nil _) ⟨4, by omega, rfl, rfl, by simp -dsimp [k11, k12, k13, k14]; omega⟩
  · exact ⟨_, Sub.refl _⟩
end Go.Proofs.Ytjamehpnclkjdaa
