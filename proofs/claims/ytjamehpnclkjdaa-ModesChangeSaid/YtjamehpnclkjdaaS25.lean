/- Releases as the document checks them, in plain Lean. It bears no statement of its own. -/
import Derived.Test.YtjamehpnclkjdaaS22
namespace Go.Proofs.Ytjamehpnclkjdaa
open Go Go.Ls
set_option linter.unusedVariables false
set_option linter.unusedSimpArgs false

def peO (js : List Jb) (r : Rl) : Int := match js[r.un.toNat]? with
  | some j => j.pe
  | none => 0
def jiO (js : List Jb) (r : Rl) : Int := match js[r.un.toNat]? with
  | some j => j.ji
  | none => 0
/-- Of the later releases those that are compared with r. -/
def pas (f t : Int) (r s : Rl) : Bool := decide (f ≤ r.ti) && decide (s.ti < t) && decide (s.un = r.un)
def prs (m : List Rl) (f t : Int) (r : Rl) : List Int := (m.filter (pas f t r)).map Rl.ti
theorem prs_succ (m : List Rl) (f t : Int) (r : Rl) {q : Nat} (h : q < m.length) : prs (m.take (q + 1)) f t r = prs (m.take q) f t r ++ if pas f t r m[q] then [m[q].ti] else [] := by
  unfold prs
  rw [List.take_succ_eq_append_getElem h, List.filter_append, List.map_append]
  cases hc : pas f t r m[q] <;> simp [hc]
theorem prs_len (m : List Rl) (f t : Int) (r : Rl) : (prs m f t r).length ≤ m.length := by
  unfold prs
  rw [List.length_map]
  exact List.length_filter_le _ _
def conR (js : List Jb) (r : Rl) (ts : List Int) : Prop := ∀ k, ∀ hk : k < ts.length, ((k : Int) + 1) * peO js r - jiO js r ≤ ts[k] - r.ti
def conI (js : List Jb) (l : List Rl) (f t : Int) (i : Nat) : Prop := ∀ h : i < l.length, conR js l[i] (prs (l.drop (i + 1)) f t l[i])

theorem sorted_of {n : Nat} {l : List Rl} {f t : Int} (h : formR n l f t) : l.Pairwise fun a b => a.ti ≤ b.ti := by
  rw [List.pairwise_iff_getElem]
  intro i j hi hj hij
  induction j with
  | zero => omega
  | succ j ih =>
    have h1 := (h (j + 1) hj).1
    rw [prevR_succ l (by omega)] at h1
    rcases Nat.lt_or_eq_of_le (Nat.le_of_lt_succ hij) with e | e
    · have := ih (by omega) e
      omega
    · subst e
      exact h1
theorem ats_split (l : List Rl) (f t u : Int) {i : Nat} (hi : i < l.length) : ats l f t u = ats (l.take i) f t u ++ ((if inn f t l[i] && decide (l[i].un = u) then [l[i].ti] else []) ++ ats (l.drop (i + 1)) f t u) := by
  have e : l = l.take i ++ l[i] :: l.drop (i + 1) := by rw [List.getElem_cons_drop, List.take_append_drop]
  have e2 : ats l f t u = ats (l.take i ++ l[i] :: l.drop (i + 1)) f t u := by rw [← e]
  rw [e2]
  unfold ats
  rw [List.filter_append, List.map_append, List.filter_cons]
  cases hc : (inn f t l[i] && decide (l[i].un = u))
  · simp only [Bool.false_eq_true, if_false, List.nil_append]
  · simp only [if_true, List.map_cons, List.singleton_append]
theorem prs_eq {n : Nat} {l : List Rl} {f t : Int} (h : formR n l f t) {i : Nat} (hi : i < l.length) (hf : f ≤ l[i].ti) : prs (l.drop (i + 1)) f t l[i] = ats (l.drop (i + 1)) f t l[i].un := by
  unfold prs ats
  congr 1
  refine List.filter_congr fun s hs => ?_
  obtain ⟨k, hk, rfl⟩ := List.getElem_of_mem hs
  have hlt : i + 1 + k < l.length := by simp at hk; omega
  have hs := List.pairwise_iff_getElem.1 (sorted_of h) i (i + 1 + k) hi hlt (by omega)
  rw [List.getElem_drop]
  simp only [pas, inn, hf, decide_true, Bool.true_and]
  rw [show decide (f ≤ l[i + 1 + k].ti) = true from decide_eq_true (by omega)]
  simp
theorem ats_index (l : List Rl) (f t u : Int) : ∀ (m a : Nat), m ≤ l.length → a < (ats (l.take m) f t u).length → ∃ i, ∃ hi : i < l.length, inn f t l[i] = true ∧ l[i].un = u ∧ (ats (l.take i) f t u).length = a
  | 0, a, _, h => by simp [ats] at h
  | m + 1, a, hm, h => by
    rw [ats_succ l f t u (by omega)] at h
    by_cases ha : a < (ats (l.take m) f t u).length
    · exact ats_index l f t u m a (by omega) ha
    · cases hc : (inn f t l[m] && decide (l[m].un = u))
      · rw [hc] at h
        simp at h
        omega
      · rw [hc] at h
        simp at h
        simp at hc
        exact ⟨m, by omega, hc.1, hc.2, by omega⟩
theorem con_iff {js : List Jb} {l : List Rl} {f t : Int} (h : formR js.length l f t) : (∀ i, conI js l f t i) ↔ gaps js l f t := by
  constructor
  · intro hc u hu b hb a hab
    obtain ⟨i, hi, h1, h2, h3⟩ := ats_index l f t u l.length a (Nat.le_refl _) (by rw [List.take_length]; omega)
    have hin : f ≤ l[i].ti ∧ l[i].ti < t := by simpa [inn] using h1
    have hp := prs_eq h hi hin.1
    have hsp := ats_split l f t u hi
    rw [h1, h2] at hsp
    simp only [decide_true, Bool.and_self, if_true, List.singleton_append] at hsp
    have hla : (ats l f t u).length = a + 1 + (ats (l.drop (i + 1)) f t u).length := by rw [hsp]; simp; omega
    have hk : b - a - 1 < (prs (l.drop (i + 1)) f t l[i]).length := by rw [hp, h2]; omega
    have := hc i hi (b - a - 1) hk
    have e1 : (ats l f t u)[a] = l[i].ti := by
      simp only [hsp]
      rw [List.getElem_append_right (by omega)]
      simp [h3]
    have e2 : (ats l f t u)[b] = (prs (l.drop (i + 1)) f t l[i])[b - a - 1] := by
      simp only [hp, h2]
      simp only [hsp]
      rw [List.getElem_append_right (by omega), List.getElem_cons]
      rw [dif_neg (by omega)]
      congr 1
      omega
    have eP : peO js l[i] = js[u].pe := by simp [peO, h2, hu]
    have eJ : jiO js l[i] = js[u].ji := by simp [jiO, h2, hu]
    rw [eP, eJ] at this
    rw [e1, e2]
    have ek : (((b - a - 1 : Nat) : Int) + 1) = (b : Int) - a := by omega
    rw [ek] at this
    exact this
  · intro hg i hi k hk
    have hlen := hk
    have hf : f ≤ l[i].ti := by
      apply Classical.byContradiction
      intro hn
      have : prs (l.drop (i + 1)) f t l[i] = [] := by
        unfold prs
        have : (l.drop (i + 1)).filter (pas f t l[i]) = [] := by
          rw [List.filter_eq_nil_iff]
          intro s _
          simp [pas, hn]
        rw [this]
        rfl
      rw [this] at hk
      simp at hk
    have hp := prs_eq h hi hf
    obtain ⟨s, hs, hst, hsi, hsu⟩ := ats_mem (List.getElem_mem (show k < (ats (l.drop (i + 1)) f t l[i].un).length by rw [← hp]; exact hk))
    obtain ⟨k', hk', rfl⟩ := List.getElem_of_mem hs
    have hlt : i + 1 + k' < l.length := by simp at hk'; omega
    have hso := List.pairwise_iff_getElem.1 (sorted_of h) i (i + 1 + k') hi hlt (by omega)
    rw [List.getElem_drop] at hsi
    have hsi' : f ≤ l[i + 1 + k'].ti ∧ l[i + 1 + k'].ti < t := by simpa [inn] using hsi
    have hin : inn f t l[i] = true := by simp [inn, hf]; omega
    obtain ⟨o1, o2⟩ := (h i hi).2.2 hin
    obtain ⟨u, hu⟩ := Int.eq_ofNat_of_zero_le o1
    have hul : u < js.length := by omega
    have hsp := ats_split l f t u hi
    rw [hin, hu] at hsp
    simp only [decide_true, Bool.and_self, if_true, List.singleton_append] at hsp
    rw [hu] at hp
    have hk2 : k < (ats (l.drop (i + 1)) f t u).length := by rw [← hp]; exact hk
    have := hg u hul ((ats (l.take i) f t u).length + 1 + k) (by rw [hsp]; simp; omega) (ats (l.take i) f t u).length (by omega)
    have e1 : ∀ hh, (ats l f t u)[(ats (l.take i) f t u).length]'hh = l[i].ti := fun hh => by
      simp only [hsp]
      rw [List.getElem_append_right (by omega)]
      simp
    have e2 : ∀ hh, (ats l f t u)[(ats (l.take i) f t u).length + 1 + k]'hh = (prs (l.drop (i + 1)) f t l[i])[k] := fun hh => by
      simp only [hp]
      simp only [hsp]
      rw [List.getElem_append_right (by omega), List.getElem_cons, dif_neg (by omega)]
      congr 1
      omega
    rw [e1, e2] at this
    have eP : peO js l[i] = js[u].pe := by simp [peO, hu, hul]
    have eJ : jiO js l[i] = js[u].ji := by simp [jiO, hu, hul]
    rw [eP, eJ]
    have ek : ((((ats (l.take i) f t u).length + 1 + k : Nat) : Int) - ((ats (l.take i) f t u).length : Int)) = (k : Int) + 1 := by omega
    rw [ek] at this
    exact this
end Go.Proofs.Ytjamehpnclkjdaa
