/- Releases, in plain Lean; and several slices of one's own. It bears no statement of its own. -/
import Derived.Test.YtjamehpnclkjdaaS20
namespace Go.Ls
open Go
set_option linter.unusedVariables false
set_option linter.unusedSimpArgs false

/-- Slices of one's own, one beside the other. -/
def OwnsA : List LV → List (List LV) → Heap → Heap → Prop
  | [], [], σ, τ => σ.Perm τ
  | v :: vs, xs :: xss, σ, τ => ∃ ρ, Own 1 v xs σ ρ ∧ OwnsA vs xss ρ τ
  | _, _, _, _ => False
theorem OwnsA.length : ∀ {vs : List LV} {xss : List (List LV)} {σ τ : Heap}, OwnsA vs xss σ τ → vs.length = xss.length
  | [], [], _, _, _ => rfl
  | _ :: _, _ :: _, _, _, ⟨_, _, h⟩ => by simp [h.length]
  | [], _ :: _, _, _, h => h.elim
  | _ :: _, [], _, _, h => h.elim
theorem Own.swap2 {v w : LV} {xs ys : List LV} {σ ρ τ : Heap} (h : Own 1 v xs σ ρ) (k : Own 1 w ys ρ τ) : ∃ ρ', Own 1 w ys σ ρ' ∧ Own 1 v xs ρ' τ := by
  rcases h with ⟨rfl, rfl, hp⟩ | ⟨B, hB, rfl, hp⟩
  · exact ⟨τ, k.perm hp, Own.none _ _⟩
  · exact ⟨(B, xs) :: τ, (k.more (B, xs)).perm hp, .inr ⟨B, hB, rfl, List.Perm.refl _⟩⟩
theorem OwnsA.at' : ∀ {vs : List LV} {xss : List (List LV)} {σ τ : Heap} {u : Nat}, OwnsA vs xss σ τ → (hu : u < vs.length) → (hu' : u < xss.length) →
    ∃ ρ, Own 1 vs[u] xss[u] σ ρ ∧ ∀ (v' : LV) (xs' : List LV) (σ' : Heap), Own 1 v' xs' σ' ρ → OwnsA (vs.set u v') (xss.set u xs') σ' τ
  | v :: vs, xs :: xss, σ, τ, 0, ⟨ρ, h1, h2⟩, _, _ => ⟨ρ, h1, fun v' xs' σ' h => ⟨ρ, h, h2⟩⟩
  | v :: vs, xs :: xss, σ, τ, u + 1, ⟨ρ, h1, h2⟩, hu, hu' => by
    obtain ⟨ρ1, h3, h4⟩ := h2.at' (u := u) (by simpa using hu) (by simpa using hu')
    obtain ⟨ρ2, h5, h6⟩ := h1.swap2 h3
    refine ⟨ρ2, h5, fun v' xs' σ' h => ?_⟩
    obtain ⟨ρ3, h7, h8⟩ := h.swap2 h6
    exact ⟨ρ3, h7, h4 v' xs' ρ3 h8⟩
theorem OwnsA.view {vs : List LV} {xss : List (List LV)} {σ τ : Heap} (h : OwnsA vs xss σ τ) {u : Nat} (hu : u < vs.length) (hu' : u < xss.length) (ho : ∀ x ∈ xss[u], x.cells.all LV.one = true) : View σ [] vs[u] (.ro 1 xss[u]) := by
  obtain ⟨ρ, h1, _⟩ := h.at' hu hu'
  exact (View.own h1 ho).trans (View.of_sub (Sub.nil _))
theorem OwnsA.one {vs : List LV} {xss : List (List LV)} {σ τ : Heap} (h : OwnsA vs xss σ τ) {u : Nat} (hu : u < vs.length) : vs[u].cells = [vs[u]] ∧ vs[u].one = true := by
  obtain ⟨ρ, h1, _⟩ := h.at' hu (by rw [← h.length]; exact hu)
  rcases h1 with ⟨e, _, _⟩ | ⟨B, _, e, _⟩ <;> rw [e] <;> exact ⟨rfl, rfl⟩
theorem OwnsA.none (n : Nat) (τ : Heap) : OwnsA (List.replicate n (.val (.slice none 0 0))) (List.replicate n []) τ τ := by
  induction n with
  | zero => exact List.Perm.refl _
  | succ n ih => exact ⟨τ, Own.none _ _, ih⟩
end Go.Ls

namespace Go.Proofs.Ytjamehpnclkjdaa
open Go Go.Ls
set_option linter.unusedVariables false
set_option linter.unusedSimpArgs false
/-- A release. -/
structure Rl where
  un : Int
  ti : Int
@[simp] def Rl.lv (r : Rl) : LV := .agg [I r.un, I r.ti, .val (.slice none 0 0)]
@[simp] theorem Rl.lv_cells (r : Rl) : r.lv.cells = [I r.un, I r.ti, .val (.slice none 0 0)] := rfl
theorem Rl.ones (l : List Rl) : ∀ x ∈ l.map Rl.lv, x.cells.all LV.one = true := by
  intro x hx
  obtain ⟨j, _, rfl⟩ := List.mem_map.1 hx
  rfl
def inn (f t : Int) (r : Rl) : Bool := decide (f ≤ r.ti) && decide (r.ti < t)
def ats (l : List Rl) (f t u : Int) : List Int := (l.filter fun r => inn f t r && decide (r.un = u)).map Rl.ti
theorem ats_succ (l : List Rl) (f t u : Int) {i : Nat} (h : i < l.length) : ats (l.take (i + 1)) f t u = ats (l.take i) f t u ++ if inn f t l[i] && decide (l[i].un = u) then [l[i].ti] else [] := by
  unfold ats
  rw [List.take_succ_eq_append_getElem h, List.filter_append, List.map_append]
  cases hc : (inn f t l[i] && decide (l[i].un = u)) <;> simp [hc]
theorem ats_len (l : List Rl) (f t u : Int) : (ats l f t u).length ≤ l.length := by
  unfold ats
  rw [List.length_map]
  exact List.length_filter_le _ _
def prevR (l : List Rl) : Nat → Int
  | 0 => 0
  | j + 1 => ((l[j]?).map Rl.ti).getD 0
def okR (n : Nat) (f t prev : Int) (r : Rl) : Prop := prev ≤ r.ti ∧ r.ti ≤ 16777216 ∧ (inn f t r = true → 0 ≤ r.un ∧ r.un < n)
instance (n : Nat) (f t prev : Int) (r : Rl) : Decidable (okR n f t prev r) := by unfold okR; infer_instance
def formR (n : Nat) (l : List Rl) (f t : Int) : Prop := ∀ i, ∀ h : i < l.length, okR n f t (prevR l i) l[i]
instance (n : Nat) (l : List Rl) (f t : Int) : Decidable (formR n l f t) := by unfold formR; infer_instance
def gap (P J : Int) (ts : List Int) : Prop := ∀ j, ∀ hj : j < ts.length, ∀ i, ∀ hi : i < j, ((j : Int) - i) * P - J ≤ ts[j] - ts[i]
instance (P J : Int) (ts : List Int) : Decidable (gap P J ts) := by unfold gap; infer_instance
def gaps (js : List Jb) (l : List Rl) (f t : Int) : Prop := ∀ u, ∀ h : u < js.length, gap js[u].pe js[u].ji (ats l f t u)
instance (js : List Jb) (l : List Rl) (f t : Int) : Decidable (gaps js l f t) := by unfold gaps; infer_instance
def relV (js : List Jb) (l : List Rl) (f t : Int) : Int := if formR js.length l f t then if gaps js l f t then 0 else 39 else 10

theorem prevR_succ (l : List Rl) {i : Nat} (h : i < l.length) : prevR l (i + 1) = l[i].ti := by simp [prevR, h]
theorem formR_nonneg {n : Nat} {l : List Rl} {f t : Int} (h : formR n l f t) : ∀ i (hi : i < l.length), 0 ≤ l[i].ti
  | 0, hi => (h 0 hi).1
  | i + 1, hi => by
    have h1 := (h (i + 1) hi).1
    rw [prevR_succ l (by omega)] at h1
    have := formR_nonneg h i (by omega)
    omega
theorem ats_mem {l : List Rl} {f t u x : Int} (h : x ∈ ats l f t u) : ∃ r ∈ l, r.ti = x ∧ inn f t r = true ∧ r.un = u := by
  simp only [ats, List.mem_map, List.mem_filter, Bool.and_eq_true, decide_eq_true_eq] at h
  obtain ⟨r, ⟨hr, h1, h2⟩, rfl⟩ := h
  exact ⟨r, hr, rfl, h1, h2⟩
theorem ats_bounds {n : Nat} {l : List Rl} {f t u : Int} (h : formR n l f t) {i : Nat} (hi : i < (ats l f t u).length) : 0 ≤ (ats l f t u)[i] ∧ (ats l f t u)[i] ≤ 16777216 := by
  obtain ⟨r, hr, e, _⟩ := ats_mem (List.getElem_mem hi)
  obtain ⟨k, hk, rfl⟩ := List.getElem_of_mem hr
  rw [← e]
  exact ⟨formR_nonneg h k hk, (h k hk).2.1⟩

/-! ### A part of the releases -/
theorem sub_index {α : Type} : ∀ {l m : List α}, l.Sublist m → ∃ g : Nat → Nat, (∀ i j, i < j → j < l.length → g i < g j) ∧ ∀ i, i < l.length → g i < m.length ∧ m[g i]? = l[i]?
  | [], _, _ => ⟨id, fun i j _ h => by simp at h, fun i h => by simp at h⟩
  | a :: l, m, h => by
    induction m with
    | nil => cases h
    | cons b m ih =>
      cases h with
      | cons _ h =>
        obtain ⟨g, h1, h2⟩ := ih h
        exact ⟨fun i => g i + 1, fun i j hij hj => Nat.succ_lt_succ (h1 i j hij hj), fun i hi => ⟨Nat.succ_lt_succ (h2 i hi).1, by simpa using (h2 i hi).2⟩⟩
      | cons_cons _ h =>
        obtain ⟨g, h1, h2⟩ := sub_index h
        refine ⟨fun i => match i with
          | 0 => 0
          | i + 1 => g i + 1, fun i j hij hj => ?_, fun i hi => ?_⟩
        · cases j with
          | zero => omega
          | succ j =>
            cases i with
            | zero => simp
            | succ i =>
              have := h1 i j (by omega) (by simpa using hj)
              simp only
              omega
        · cases i with
          | zero => simp
          | succ i =>
            have := h2 i (by simpa using hi)
            exact ⟨by simp only [List.length_cons]; omega, by simpa using this.2⟩
theorem gap_sub {P J : Int} {ts us : List Int} (h : gap P J us) (hP : 0 ≤ P) (hs : ts.Sublist us) : gap P J ts := by
  obtain ⟨g, h1, h2⟩ := sub_index hs
  have far : ∀ d i, i + d < ts.length → g i + d ≤ g (i + d) := by
    intro d
    induction d with
    | zero => intro i _; exact Nat.le_refl _
    | succ d ih =>
      intro i hi
      have a := ih i (by omega)
      have b := h1 (i + d) (i + (d + 1)) (by omega) hi
      omega
  intro j hj i hi
  obtain ⟨a1, a2⟩ := h2 j hj
  obtain ⟨b1, b2⟩ := h2 i (by omega)
  have hlt := h1 i j hi hj
  have hg := h (g j) a1 (g i) hlt
  rw [List.getElem?_eq_getElem a1, List.getElem?_eq_getElem hj] at a2
  rw [List.getElem?_eq_getElem b1, List.getElem?_eq_getElem (by omega)] at b2
  have hf := far (j - i) i (by omega)
  rw [show i + (j - i) = j by omega] at hf
  have hm := Int.mul_le_mul_of_nonneg_right (show ((j : Int) - i) ≤ (g j : Int) - g i by omega) hP
  have e1 : us[g j] = ts[j] := by simpa using a2
  have e2 : us[g i] = ts[i] := by simpa using b2
  rw [e1, e2] at hg
  omega
theorem ats_sub {l m : List Rl} {f t u : Int} (h : l.Sublist m) : (ats l f t u).Sublist (ats m f t u) := (h.filter _).map _
theorem ats_window {l : List Rl} {f t f' t' u : Int} (h : ∀ r ∈ l, inn f t r = true) : (ats l f' t' u).Sublist (ats l f t u) := by
  unfold ats
  refine List.Sublist.map _ ?_
  rw [show (l.filter fun r => inn f' t' r && decide (r.un = u)) = (l.filter fun r => inn f t r && decide (r.un = u)).filter fun r => inn f' t' r from ?_]
  · exact List.filter_sublist
  · rw [List.filter_filter]
    refine List.filter_congr fun r hr => ?_
    rw [h r hr]
    simp
/-- Sorted, within limits. -/
def sortR (n : Nat) (l : List Rl) : Prop := (∀ r ∈ l, 0 ≤ r.ti ∧ r.ti ≤ 16777216 ∧ 0 ≤ r.un ∧ r.un < n) ∧ l.Pairwise fun a b => a.ti ≤ b.ti
theorem prevR_le {l : List Rl} (h0 : ∀ r ∈ l, 0 ≤ r.ti) (h : l.Pairwise fun a b => a.ti ≤ b.ti) {i : Nat} (hi : i < l.length) : prevR l i ≤ l[i].ti := by
  cases i with
  | zero => exact h0 _ (List.getElem_mem hi)
  | succ i =>
    rw [prevR_succ l (by omega)]
    exact List.pairwise_iff_getElem.1 h i (i + 1) (by omega) hi (by omega)
theorem formR_of {n : Nat} {l : List Rl} (h : sortR n l) (f t : Int) : formR n l f t := fun i hi => by
  have := h.1 _ (List.getElem_mem hi)
  exact ⟨prevR_le (fun r hr => (h.1 r hr).1) h.2 hi, this.2.1, fun _ => this.2.2⟩
theorem sortR_of {n : Nat} {l : List Rl} {f t : Int} (h : formR n l f t) (hu : ∀ r ∈ l, 0 ≤ r.un ∧ r.un < n) : sortR n l := by
  refine ⟨fun r hr => ?_, ?_⟩
  · obtain ⟨i, hi, rfl⟩ := List.getElem_of_mem hr
    exact ⟨formR_nonneg h i hi, (h i hi).2.1, hu _ hr⟩
  · rw [List.pairwise_iff_getElem]
    intro i j hi hj hij
    induction j with
    | zero => omega
    | succ j ih =>
      have h1 := (h (j + 1) hj).1
      rw [prevR_succ l (by omega)] at h1
      rcases Nat.lt_or_eq_of_le (Nat.le_of_lt_succ hij) with e | e
      · have := ih (by omega) e
        omega
      · subst e
        exact h1
theorem sortR_sub {n : Nat} {l m : List Rl} (h : sortR n m) (hs : l.Sublist m) : sortR n l := ⟨fun r hr => h.1 r (hs.subset hr), h.2.sublist hs⟩
/-- The law ModesParts, of plain values. -/
theorem rel_parts {js : List Jb} {l some : List Rl} (hv : validL js) (hu : ∀ r ∈ l, (0 ≤ r.un ∧ r.un < js.length) ∧ r.ti < 2000) (h : relV js l 0 2000 = 0) (hs : some.Sublist l) (f t : Int) : relV js l f t = 0 ∧ relV js some 0 2000 = 0 := by
  unfold relV at h
  split at h
  · rename_i hf
    split at h
    · rename_i hg
      have hso := sortR_of hf fun r hr => (hu r hr).1
      have hin : ∀ r ∈ l, inn 0 2000 r = true := fun r hr => by
        have h1 := (hso.1 r hr).1
        have h2 := (hu r hr).2
        simp [inn, h1, h2]
      constructor
      · unfold relV
        rw [if_pos (formR_of hso f t), if_pos]
        intro u hul
        exact gap_sub (hg u hul) (by have := (hv.get hul).1.1; omega) (ats_window hin)
      · unfold relV
        rw [if_pos (formR_of (sortR_sub hso hs) 0 2000), if_pos]
        intro u hul
        exact gap_sub (hg u hul) (by have := (hv.get hul).1.1; omega) (ats_sub hs)
    · cases h
  · cases h
end Go.Proofs.Ytjamehpnclkjdaa
