/- What grows with what, in plain Lean. It bears no statement of its own. -/
import Derived.Test.YtjamehpnclkjdaaS17
namespace Go.Proofs.Ytjamehpnclkjdaa
open Go Go.Ls
set_option linter.unusedVariables false
set_option linter.unusedSimpArgs false

def LeJ (a b : Jb) : Prop := (a.pe = b.pe ∧ a.de = b.de ∧ a.ji = b.ji ∧ a.pr = b.pr) ∧ a.co ≤ b.co ∧ a.ev ≤ b.ev ∧ ∀ h ∈ a.se, h ∈ b.se
theorem LeJ.refl (a : Jb) : LeJ a a := ⟨⟨rfl, rfl, rfl, rfl⟩, Int.le_refl _, Int.le_refl _, fun _ h => h⟩
def LeL (l m : List Jb) : Prop := l.length = m.length ∧ ∀ (i : Nat) (h : i < l.length) (h' : i < m.length), LeJ l[i] m[i]
theorem LeL.refl (l : List Jb) : LeL l l := ⟨rfl, fun i _ _ => LeJ.refl _⟩
theorem LeL.set {l : List Jb} {k : Nat} (hk : k < l.length) {j : Jb} (h : LeJ l[k] j) : LeL l (l.set k j) := by
  refine ⟨by simp, fun i h1 h2 => ?_⟩
  by_cases e : i = k
  · subst e
    rw [List.getElem_set_self]
    exact h
  · rw [List.getElem_set_ne (by omega)]
    exact LeJ.refl _
def LeR (x y : Rt) : Prop := x.di = y.di ∧ x.de = y.de ∧ x.pe = y.pe ∧ x.pa ≤ y.pa ∧ x.wi = y.wi ∧ x.er = y.er
theorem LeR.refl (x : Rt) : LeR x x := ⟨rfl, rfl, rfl, Int.le_refl _, rfl, rfl⟩

theorem bef_mono {l m : List Jb} (h : LeL l m) (i j : Nat) : bef l i j = bef m i j := by
  by_cases hi : i < l.length
  · by_cases hj : j < l.length
    · rw [bef_eq hi hj, bef_eq (by rw [← h.1]; exact hi) (by rw [← h.1]; exact hj), (h.2 i hi (by rw [← h.1]; exact hi)).1.2.2.2, (h.2 j hj (by rw [← h.1]; exact hj)).1.2.2.2]
    · cases hb : bef l i j with
      | true => exact absurd (bef_lt hb).2 hj
      | false => cases hb' : bef m i j with
        | true => exact absurd (by rw [h.1]; exact (bef_lt hb').2) hj
        | false => rfl
  · cases hb : bef l i j with
    | true => exact absurd (bef_lt hb).1 hi
    | false => cases hb' : bef m i j with
      | true => exact absurd (by rw [h.1]; exact (bef_lt hb').1) hi
      | false => rfl
theorem uses_mono {a b : Jb} (h : LeJ a b) {r : Int} (hu : usesR a r = true) : usesR b r = true := by
  unfold usesR at *
  obtain ⟨x, hx, hr⟩ := List.any_eq_true.1 hu
  exact List.any_eq_true.2 ⟨x, h.2.2.2 x hx, hr⟩
theorem reach_mono {l m : List Jb} (h : LeL l m) {i : Nat} {r : Int} (hr : reach l i r = true) : reach m i r = true := by
  rw [reach_iff] at *
  obtain ⟨c, hc, hu, hb⟩ := hr
  have hc' : c < m.length := by rw [← h.1]; exact hc
  exact ⟨c, hc', uses_mono (h.2 c hc hc') hu, by rwa [← bef_mono h]⟩
theorem blk_mono {l m : List Jb} (h : LeL l m) (i : Nat) (ins : Int) : blk l i ins ≤ blk m i ins := by
  have hm := blk_le.1 (Int.le_refl (blk m i ins))
  refine blk_le.2 ⟨hm.1, fun k hk hb => ?_⟩
  have hk' : k < m.length := by rw [← h.1]; exact hk
  obtain ⟨h1, h2⟩ := hm.2 k hk' (by rwa [← bef_mono h])
  exact ⟨h1, fun x hx hr => h2 x ((h.2 k hk hk').2.2.2 x hx) (reach_mono h hr)⟩
theorem term_up {l m : List Jb} (h : LeL l m) (hl : validL l) {i k : Nat} {t : Int} (ht : 0 ≤ t) : term l i t k ≤ term m i t k := by
  unfold term
  by_cases hk : k < l.length
  · have hk' : k < m.length := by rw [← h.1]; exact hk
    rw [List.getElem?_eq_getElem hk, List.getElem?_eq_getElem hk', bef_mono h]
    obtain ⟨⟨e1, e2, e3, e4⟩, e5, e6, _⟩ := h.2 k hk hk'
    obtain ⟨⟨j1, j2, j3, j4, j5, j6⟩, _⟩ := hl.get hk
    simp only
    split
    · rw [← e1, ← e3]
      exact Int.mul_le_mul_of_nonneg_left (by omega) (ceil_nonneg _ _ (by omega))
    · omega
  · have hk' : ¬ k < m.length := by rw [← h.1]; exact hk
    rw [List.getElem?_eq_none (by omega), List.getElem?_eq_none (by omega)]
    exact Int.le_refl _
theorem sumA_up {l m : List Jb} (h : LeL l m) (hl : validL l) {i : Nat} {t : Int} (ht : 0 ≤ t) : ∀ n, sumA l i t n ≤ sumA m i t n
  | 0 => Int.le_refl _
  | n + 1 => by
    have := sumA_up h hl (i := i) ht n
    have := term_up h hl (i := i) (k := n) ht
    unfold sumA
    omega
theorem most_up {x y : Rt} (h : LeR x y) {e t : Int} (ht : 0 ≤ t) : most x e t ≤ most y e t := by
  obtain ⟨h1, h2, h3, h4, h5, h6⟩ := h
  unfold most
  rw [h1, h2, h3, h5, h6]
  have := Int.mul_le_mul_of_nonneg_right h4 (ceil_nonneg t y.pe ht)
  omega
theorem coOf_up {l m : List Jb} (h : LeL l m) (i : Nat) : coOf l i ≤ coOf m i := by
  unfold coOf
  by_cases hk : i < l.length
  · have hk' : i < m.length := by rw [← h.1]; exact hk
    rw [List.getElem?_eq_getElem hk, List.getElem?_eq_getElem hk']
    exact (h.2 i hk hk').2.1
  · have hk' : ¬ i < m.length := by rw [← h.1]; exact hk
    rw [List.getElem?_eq_none (by omega), List.getElem?_eq_none (by omega)]
    exact Int.le_refl _
theorem dem_up {l m : List Jb} (h : LeL l m) (hl : validL l) {x y : Rt} (hx : LeR x y) {i : Nat} {ins miss t : Int} (ht : 0 ≤ t) : dem l x i ins miss t ≤ dem m y i ins miss t := by
  have h1 := blk_mono h i ins
  have h2 := coOf_up h i
  have h3 := most_up hx (e := miss) ht
  have h4 := sumA_up h hl (i := i) ht l.length
  unfold dem
  rw [← h.1]
  omega
theorem rt_up {l m : List Jb} (h : LeL l m) (hl : validL l) {x y : Rt} (hx : LeR x y) {i : Nat} {ins miss t : Int} (ht : rt m y ins miss i = some t) : ∃ s, rt l x ins miss i = some s ∧ s ≤ t := by
  by_cases hk : i < l.length
  · have hk' : i < m.length := by rw [← h.1]; exact hk
    rw [rt_eq hk', resp_some] at ht
    obtain ⟨h1, h2, h3, h4⟩ := ht
    obtain ⟨⟨e1, e2, e3, e4⟩, e5, e6, _⟩ := h.2 i hk hk'
    have hd := dem_up h hl hx (i := i) (ins := ins) (miss := miss) (show 0 ≤ t by omega)
    rw [rt_eq hk]
    cases hr : resp (dem l x i ins miss) l[i].ji l[i].de with
    | none =>
      have := resp_none.1 hr t h1 (by omega)
      omega
    | some s =>
      obtain ⟨g1, g2, g3, g4⟩ := resp_some.1 hr
      refine ⟨s, rfl, ?_⟩
      apply Classical.byContradiction
      intro hn
      have := g4 t h1 (by omega)
      omega
  · have : rt m y ins miss i = none := by
      unfold rt
      rw [List.getElem?_eq_none (by rw [← h.1]; omega)]
    rw [this] at ht
    cases ht

/-! ### Raised costs -/
theorem rse_valid {l : List Jb} {i : Nat} {c d : Int} (h : validL (rse l i d)) (hi : i < l.length) (h0 : 0 ≤ c) (h1 : c ≤ d) : validL (rse l i c) := by
  refine ⟨by rw [rse_len, ← rse_len l i d]; exact h.1, fun j hj => ?_⟩
  obtain ⟨k, hk, rfl⟩ := List.getElem_of_mem hj
  have hkd : k < (rse l i d).length := by rw [rse_len] at hk ⊢; exact hk
  have hv := h.get hkd
  by_cases e : k = i
  · subst e
    rw [rse_get hi] at hv ⊢
    obtain ⟨⟨j1, j2, j3, j4, j5, j6⟩, j7⟩ := hv
    refine ⟨⟨j1, j2, j3, j4, ?_, j6⟩, j7⟩
    simp only [wcj] at j5 ⊢
    omega
  · simp only [rse_eq hi, List.getElem_set_ne (Ne.symm e)] at hv ⊢
    exact hv
theorem rse_up {l : List Jb} {i : Nat} {c d : Int} (hi : i < l.length) (h : c ≤ d) : LeL (rse l i c) (rse l i d) := by
  refine ⟨by simp, fun k h1 h2 => ?_⟩
  by_cases e : k = i
  · subst e
    rw [rse_get hi, rse_get hi]
    exact ⟨⟨rfl, rfl, rfl, rfl⟩, h, Int.le_refl _, fun _ h => h⟩
  · simp only [rse_eq hi, List.getElem_set_ne (Ne.symm e)]
    exact LeJ.refl _
theorem allV_zero {l : List Jb} {x : Rt} {ins miss : Int} : (allV l x ins miss).1 = 0 ↔ okC l x ins miss ∧ ∀ i, i < l.length → (rt l x ins miss i).isSome = true := by
  unfold allV
  split
  · rename_i hc
    rw [← ans_isSome]
    cases ans l x ins miss <;> simp [hc]
  · rename_i hc
    simp [hc]
theorem fitB_mono {l : List Jb} {x : Rt} {ins miss : Int} {i : Nat} {m n : Int} (hi : i < l.length) (h0 : 0 ≤ l[i].co + m) (h : m ≤ n) (hn : fitB l x ins miss i n = true) : fitB l x ins miss i m = true := by
  rw [fitB_eq hi, decide_eq_true_eq, allV_zero] at *
  obtain ⟨⟨hv, hx, h1, h2⟩, ha⟩ := hn
  have hv' := rse_valid hv hi h0 (show l[i].co + m ≤ l[i].co + n by omega)
  refine ⟨⟨hv', hx, h1, h2⟩, fun k hk => ?_⟩
  rw [rse_len] at hk
  obtain ⟨t, ht⟩ := Option.isSome_iff_exists.1 (ha k (by rw [rse_len]; exact hk))
  obtain ⟨s, hs, _⟩ := rt_up (rse_up hi (show l[i].co + m ≤ l[i].co + n by omega)) hv' (LeR.refl x) ht
  rw [hs]
  rfl
theorem slack_one {l : List Jb} {x : Rt} {ins miss : Int} {i : Int} {r s : LV} (hr : SlackR l x ins miss i r []) (hs : SlackR l x ins miss i s []) : r = s ∧ ∃ n e, r = .tup [I n, I e] := by
  unfold SlackR at *
  split at hr
  · rename_i hc
    rw [if_pos hc] at hs
    split at hr
    · rename_i h0
      rw [if_pos h0] at hs
      obtain ⟨n, rfl, n0, _, n1, n2⟩ := hr
      obtain ⟨m, rfl, m0, _, m1, m2⟩ := hs
      obtain ⟨k, rfl⟩ := Int.eq_ofNat_of_zero_le hc.2.1
      rw [Int.toNat_natCast] at *
      have hk : k < l.length := by have := hc.2.2; omega
      have hco := (hc.1.1.get hk).1.2.2.2.2.1
      have : n = m := by
        rcases Int.lt_trichotomy n m with e | e | e
        · have := fitB_mono (m := n + 1) hk (by omega) (by omega) m1
          rw [this] at n2
          cases n2
        · exact e
        · have := fitB_mono (m := m + 1) hk (by omega) (by omega) n1
          rw [this] at m2
          cases m2
      subst this
      exact ⟨rfl, _, _, rfl⟩
    · rename_i h0
      rw [if_neg h0] at hs
      exact ⟨hr.trans hs.symm, _, _, hr⟩
  · rename_i hc
    rw [if_neg hc] at hs
    exact ⟨hr.trans hs.symm, _, _, hr⟩
end Go.Proofs.Ytjamehpnclkjdaa
