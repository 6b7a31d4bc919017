/- The law RatesBounds, whole. It bears no statement of its own. -/
import Derived.Test.YtjamehpnclkjdaaR10
namespace Go.Proofs.Ytjamehpnclkjdaa
open Go Go.Ls
set_option linter.unusedVariables false
set_option linter.unusedSimpArgs false
set_option maxRecDepth 100000
attribute [local irreducible] Box drawF

def inW (a b t : Int) : Bool := decide (a ≤ t) && decide (t < b)
theorem cnt_tms (l : List Db) (k a b : Int) : cnt l k a b = (tms l k).countP (inW a b) := by
  unfold cnt tms
  rw [List.countP_map, List.countP_filter]
  congr 1
  funext d
  simp only [hit, inW, Function.comp_apply]
  rw [Bool.and_comm]
theorem win_split (ts : List Int) (a b c : Int) (h1 : a ≤ b) (h2 : b ≤ c) : ts.countP (inW a b) + ts.countP (inW b c) = ts.countP (inW a c) := by
  induction ts with
  | nil => rfl
  | cons d l ih =>
    simp only [List.countP_cons] at ih ⊢
    have : (if inW a c d = true then 1 else 0) = (if inW a b d = true then 1 else 0) + (if inW b c d = true then 1 else 0) := by
      simp only [inW, Bool.and_eq_true, decide_eq_true_eq]
      split <;> split <;> split <;> omega
    omega
theorem win_none (ts : List Int) (a b : Int) (h : b ≤ a) : ts.countP (inW a b) = 0 := by
  rw [List.countP_eq_zero]
  intro d _
  simp only [inW, Bool.and_eq_true, decide_eq_true_eq]
  omega

/-- So far apart: r further, at least ap later. -/
def Gap (ts : List Int) (r : Nat) (ap : Int) : Prop := ∀ j (h : j + r < ts.length), ap ≤ ts[j + r] - ts[j]
theorem win_one (r : Nat) (ap a b : Int) (hb : b ≤ a + ap) : ∀ ts : List Int, ts.Pairwise (· ≤ ·) → Gap ts r ap → ts.countP (inW a b) ≤ r
  | [], _, _ => Nat.zero_le _
  | d :: ts, hs, hg => by
    have hs' := List.pairwise_cons.1 hs
    by_cases hd : inW a b d = true
    · have hz : ((d :: ts).drop r).countP (inW a b) = 0 := by
        rw [List.countP_eq_zero]
        intro t ht
        obtain ⟨i, hi, rfl⟩ := List.getElem_of_mem ht
        rw [List.length_drop] at hi
        rw [List.getElem_drop]
        have hr : r < (d :: ts).length := by omega
        have h0 := hg 0 (by simpa using hr)
        simp only [Nat.zero_add, List.getElem_cons_zero] at h0
        have h1 : (d :: ts)[r] ≤ (d :: ts)[r + i] := by
          rcases Nat.eq_zero_or_pos i with rfl | hp
          · exact Int.le_refl _
          · exact List.pairwise_iff_getElem.1 hs r (r + i) hr (by omega) (by omega)
        simp only [inW, Bool.and_eq_true, decide_eq_true_eq] at hd ⊢
        omega
      have := List.take_append_drop r (d :: ts)
      rw [← this, List.countP_append, hz, Nat.add_zero]
      exact Nat.le_trans List.countP_le_length (by simp; omega)
    · rw [List.countP_cons_of_neg hd]
      exact win_one r ap a b hb ts hs'.2 fun j h => by
        have := hg (j + 1) (by simp; omega)
        simpa [Nat.add_right_comm] using this
theorem win_many (r : Nat) (ap : Int) (hap : 0 < ap) (ts : List Int) (hs : ts.Pairwise (· ≤ ·)) (hg : Gap ts r ap) : ∀ (k : Nat) (a b : Int), b ≤ a + k * ap → ts.countP (inW a b) ≤ r * k
  | 0, a, b, h => by rw [win_none ts a b (by simpa using h)]; omega
  | k + 1, a, b, h => by
    by_cases hb : b ≤ a + ap
    · exact Nat.le_trans (win_one r ap a b hb ts hs hg) (by rw [Nat.mul_add]; omega)
    · rw [← win_split ts a (a + ap) b (by omega) (by omega)]
      have h1 := win_one r ap a (a + ap) (Int.le_refl _) ts hs hg
      have h2 := win_many r ap hap ts hs hg k (a + ap) b (by
        have : ((k + 1 : Nat) : Int) * ap = k * ap + ap := by rw [Int.natCast_add, Int.add_mul]; simp
        omega)
      rw [Nat.mul_add]
      omega
theorem ceil_cover (n ap : Int) (h : 0 < ap) : n ≤ ceil n ap * ap := by
  unfold ceil
  rw [if_neg (by omega)]
  have h1 := Int.mul_ediv_add_emod (n + ap - 1) ap
  have h2 := Int.emod_lt_of_pos (n + ap - 1) h
  rw [Int.mul_comm] at h1
  omega
theorem win_ceil (ts : List Int) (ap n a : Int) (r : Int) (hr : 0 ≤ r) (hn : 0 ≤ n) (hap : 0 ≤ ap) (hs : ts.Pairwise (· ≤ ·)) (h : apartB ts ap r = true) : (ts.countP (inW a (a + n)) : Int) ≤ r * ceil n ap := by
  unfold apartB at h
  split at h
  · simp only [decide_eq_true_eq] at h
    subst h
    simp only [List.countP_nil]
    exact Int.mul_nonneg hr (ceil_nonneg n ap hn)
  · rename_i hne
    have hap : 0 < ap := by omega
    have hg : Gap ts r.toNat ap := by
      intro j hj
      simp only [gapsB, decide_eq_true_eq] at h
      have := h j (by omega) hj
      rw [getD_lt _ _ hj, getD_lt _ _ (by omega : j < ts.length)] at this
      exact this
    have hc := ceil_nonneg n ap hn
    have := win_many r.toNat ap hap ts hs hg (ceil n ap).toNat a (a + n) (by
      rw [Int.toNat_of_nonneg hc]
      have := ceil_cover n ap hap
      omega)
    have e : ((r.toNat * (ceil n ap).toNat : Nat) : Int) = r * ceil n ap := by
      rw [Int.natCast_mul, Int.toNat_of_nonneg hr, Int.toNat_of_nonneg hc]
    rw [← e]
    exact Int.ofNat_le.2 this
theorem formed_sorted {l : List Db} (h : formedB l l.length = true) (k : Int) : (tms l k).Pairwise (· ≤ ·) := by
  have key : ∀ (j i : Nat) (hj : j < l.length) (hi : i < j), l[i].t ≤ l[j].t := by
    intro j
    induction j with
    | zero => intro i _ hi; omega
    | succ j ih =>
      intro i hj hi
      have hf := formedB_le (i := j + 1 + 1) (by omega) h
      rw [formedB_succ l (j + 1) hj, Bool.and_eq_true, decide_eq_true_eq] at hf
      have h2 := hf.2.2.1
      have hp : prevT l (j + 1) = l[j].t := by simp [prevT, List.getElem?_eq_getElem (by omega : j < l.length)]
      rw [hp] at h2
      rcases Nat.lt_or_eq_of_le (Nat.le_of_lt_succ hi) with h3 | rfl
      · exact Int.le_trans (ih i (by omega) h3) h2
      · exact h2
  unfold tms
  rw [List.pairwise_map]
  exact List.Pairwise.sublist List.filter_sublist (List.pairwise_iff_getElem.2 fun i j hi hj hij => key j i hj hij)
theorem bound_of {x : Rt} {l : List Db} (h : checkV x l = 0) (e n a : Int) (hn : 0 ≤ n) (he : 0 ≤ e) :
    (cnt l 1 a (a + n) : Int) * x.de + cnt l 2 a (a + n) * x.pa + cnt l 3 a (a + n) * e ≤ most x e n := by
  unfold checkV at h
  split at h
  · cases h
  split at h
  · cases h
  split at h
  · rename_i h1 h2 h3
    have hv : validR x := Classical.byContradiction fun hv => h1 (.inl hv)
    obtain ⟨⟨v1, v2⟩, ⟨v3, v4⟩, ⟨v5, v6⟩, ⟨v7, v8⟩, ⟨v9, v10⟩, ⟨v11, v12⟩, v13⟩ := hv
    have hf : formedB l l.length = true := by simpa using h2
    simp only [apartAll, Bool.and_eq_true] at h3
    have c1 := win_ceil (tms l 1) x.di n a 1 (by omega) hn v1 (formed_sorted hf 1) h3.1.1
    have c2 := win_ceil (tms l 2) x.pe n a 1 (by omega) hn v3 (formed_sorted hf 2) h3.1.2
    have c3 := win_ceil (tms l 3) x.wi n a x.er v11 hn v5 (formed_sorted hf 3) h3.2
    rw [← cnt_tms, Int.one_mul] at c1 c2
    rw [← cnt_tms] at c3
    have m1 := Int.mul_le_mul_of_nonneg_left c1 v7
    have m2 := Int.mul_le_mul_of_nonneg_left c2 v9
    have m3 := Int.mul_le_mul_of_nonneg_left c3 he
    rw [← Int.mul_assoc] at m3
    rw [Int.mul_comm (cnt l 1 a (a + n) : Int), Int.mul_comm (cnt l 2 a (a + n) : Int), Int.mul_comm (cnt l 3 a (a + n) : Int)]
    unfold most
    omega
  · cases h
end Go.Proofs.Ytjamehpnclkjdaa
