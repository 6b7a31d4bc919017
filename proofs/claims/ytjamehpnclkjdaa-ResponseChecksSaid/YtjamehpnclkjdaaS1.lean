/- Jobs, blocking, demand and response times, in plain Lean. It bears no statement of its own. -/
import Derived.Test.YtjamehpnclkjdaaR3
import Derived.Test.YtjamehpnclkjdaaLo
namespace Go.Proofs.Ytjamehpnclkjdaa
open Go Go.Ls
set_option linter.unusedVariables false
set_option linter.unusedSimpArgs false

/-- A section. -/
structure Hd where
  re : Int
  co : Int
@[simp] def Hd.lv (h : Hd) : LV := .agg [I h.re, I h.co]
/-- A job. -/
structure Jb where
  pe : Int
  de : Int
  ji : Int
  pr : Int
  co : Int
  se : List Hd
  ev : Int
@[simp] def Jb.lv (j : Jb) : LV := .agg [I j.pe, I j.de, I j.ji, I j.pr, I j.co, .ro 2 (j.se.map Hd.lv), I j.ev]
/-- An answer. -/
structure An where
  bl : Int
  re : Int
@[simp] def An.lv (a : An) : LV := .agg [I a.bl, I a.re]
@[simp] theorem Hd.lv_cells (h : Hd) : h.lv.cells = [I h.re, I h.co] := rfl
@[simp] theorem Jb.lv_cells (j : Jb) : j.lv.cells = [I j.pe, I j.de, I j.ji, I j.pr, I j.co, .ro 2 (j.se.map Hd.lv), I j.ev] := rfl
@[simp] theorem An.lv_cells (a : An) : a.lv.cells = [I a.bl, I a.re] := rfl

def validH (h : Hd) : Prop := (0 ≤ h.re ∧ h.re ≤ 3) ∧ (0 ≤ h.co ∧ h.co ≤ 16777216)
instance (h : Hd) : Decidable (validH h) := by unfold validH; infer_instance
def validN (j : Jb) : Prop := (1 ≤ j.pe ∧ j.pe ≤ 16777216) ∧ (1 ≤ j.de ∧ j.de ≤ j.pe) ∧ (0 ≤ j.ji ∧ j.ji ≤ j.pe) ∧ (0 ≤ j.pr ∧ j.pr ≤ 15) ∧ (0 ≤ j.co ∧ j.co ≤ 16777216) ∧ (0 ≤ j.ev ∧ j.ev ≤ 16777216)
instance (j : Jb) : Decidable (validN j) := by unfold validN; infer_instance
def validJ (j : Jb) : Prop := validN j ∧ ∀ h ∈ j.se, validH h
instance (j : Jb) : Decidable (validJ j) := by unfold validJ; infer_instance
def validL (l : List Jb) : Prop := l.length ≤ 6 ∧ ∀ j ∈ l, validJ j
instance (l : List Jb) : Decidable (validL l) := by unfold validL; infer_instance
theorem validL.get {l : List Jb} (h : validL l) {i : Nat} (hi : i < l.length) : validJ l[i] := h.2 _ (List.getElem_mem hi)

/-! ### Who is before whom -/
def bef (l : List Jb) (i j : Nat) : Bool := match l[i]?, l[j]? with
  | some a, some b => decide (b.pr < a.pr) || (decide (a.pr = b.pr) && decide (i < j))
  | _, _ => false
theorem bef_eq {l : List Jb} {i j : Nat} (hi : i < l.length) (hj : j < l.length) : bef l i j = (decide (l[j].pr < l[i].pr) || (decide (l[i].pr = l[j].pr) && decide (i < j))) := by
  unfold bef
  rw [List.getElem?_eq_getElem hi, List.getElem?_eq_getElem hj]
theorem bef_lt {l : List Jb} {i j : Nat} (h : bef l i j = true) : i < l.length ∧ j < l.length := by
  unfold bef at h
  split at h
  · rename_i a b h1 h2
    exact ⟨(List.getElem?_eq_some_iff.1 h1).1, (List.getElem?_eq_some_iff.1 h2).1⟩
  · cases h
theorem bef_irrefl {l : List Jb} {i : Nat} : bef l i i = false := by
  unfold bef
  cases l[i]? <;> simp
theorem bef_trans {l : List Jb} {i j k : Nat} (h1 : bef l i j = true) (h2 : bef l j k = true) : bef l i k = true := by
  have hi := (bef_lt h1).1
  have hj := (bef_lt h1).2
  have hk := (bef_lt h2).2
  rw [bef_eq hi hj] at h1
  rw [bef_eq hj hk] at h2
  rw [bef_eq hi hk]
  simp only [Bool.or_eq_true, Bool.and_eq_true, decide_eq_true_eq] at *
  omega
theorem bef_total {l : List Jb} {i j : Nat} (hi : i < l.length) (hj : j < l.length) : i = j ∨ bef l i j = true ∨ bef l j i = true := by
  rw [bef_eq hi hj, bef_eq hj hi]
  simp only [Bool.or_eq_true, Bool.and_eq_true, decide_eq_true_eq]
  omega

/-! ### Ceilings -/
def usesR (j : Jb) (r : Int) : Bool := j.se.any fun h => decide (h.re = r)
/-- The first of the jobs below n that hal a section with r. -/
def cl (l : List Jb) (r : Int) : Nat → Option Nat
  | 0 => none
  | n + 1 => match l[n]? with
    | none => cl l r n
    | some j => if usesR j r then match cl l r n with
        | none => some n
        | some b => if bef l n b then some n else some b
      else cl l r n
theorem cl_lt {l : List Jb} {r : Int} : ∀ {n c : Nat}, cl l r n = some c → c < n ∧ ∃ h : c < l.length, usesR l[c] r = true
  | 0, c, h => by simp [cl] at h
  | n + 1, c, h => by
    unfold cl at h
    have up : cl l r n = some c → c < n + 1 ∧ ∃ h : c < l.length, usesR l[c] r = true := fun h => ⟨Nat.lt_succ_of_lt (cl_lt h).1, (cl_lt h).2⟩
    split at h
    · exact up h
    · rename_i j hj
      obtain ⟨hn, hj⟩ := List.getElem?_eq_some_iff.1 hj
      split at h
      · rename_i hu
        have me : n < n + 1 ∧ ∃ h : n < l.length, usesR l[n] r = true := ⟨Nat.lt_succ_self n, hn, by rw [hj]; exact hu⟩
        split at h
        · cases h; exact me
        · split at h
          · cases h; exact me
          · cases h; exact up (by assumption)
      · exact up h
theorem cl_first {l : List Jb} {r : Int} : ∀ {n d : Nat} (hd : d < l.length), d < n → usesR l[d] r = true → ∃ c, cl l r n = some c ∧ (c = d ∨ bef l c d = true)
  | 0, d, hd, h, _ => by omega
  | n + 1, d, hd, h, hu => by
    unfold cl
    by_cases hdn : d = n
    · subst hdn
      rw [List.getElem?_eq_getElem hd]
      simp only [hu, if_true]
      split
      · exact ⟨_, rfl, .inl rfl⟩
      · rename_i b hb
        obtain ⟨hb1, hb2, hb3⟩ := cl_lt hb
        split
        · exact ⟨_, rfl, .inl rfl⟩
        · rename_i hnb
          refine ⟨_, rfl, .inr ?_⟩
          rcases bef_total hd hb2 with h | h | h
          · omega
          · exact absurd h hnb
          · exact h
    · obtain ⟨c, hc, hcd⟩ := cl_first hd (by omega : d < n) hu
      split
      · exact ⟨c, hc, hcd⟩
      · rw [hc]
        split
        · simp only
          split
          · rename_i hb
            refine ⟨_, rfl, .inr ?_⟩
            rcases hcd with rfl | hcd
            · exact hb
            · exact bef_trans hb hcd
          · exact ⟨c, rfl, hcd⟩
        · exact ⟨c, rfl, hcd⟩

/-- A section with r can hold job i up. -/
def reach (l : List Jb) (i : Nat) (r : Int) : Bool := match cl l r l.length with
  | some c => decide (c = i) || bef l c i
  | none => false
theorem reach_iff {l : List Jb} {i : Nat} {r : Int} : reach l i r = true ↔ ∃ c, ∃ h : c < l.length, usesR l[c] r = true ∧ (c = i ∨ bef l c i = true) := by
  unfold reach
  constructor
  · intro h
    split at h
    · rename_i c hc
      obtain ⟨_, h1, h2⟩ := cl_lt hc
      exact ⟨c, h1, h2, by simpa using h⟩
    · cases h
  · rintro ⟨c, h1, h2, h3⟩
    obtain ⟨d, hd, hdc⟩ := cl_first h1 h1 h2
    rw [hd]
    simp only [Bool.or_eq_true, decide_eq_true_eq]
    rcases hdc with rfl | hdc
    · exact h3
    · rcases h3 with rfl | h3
      · exact .inr hdc
      · exact .inr (bef_trans hdc h3)

/-! ### Blocking -/
def holdM (l : List Jb) (i : Nat) (m : Int) (h : Hd) : Int := if reach l i h.re then max m h.co else m
def holds (l : List Jb) (i : Nat) (hs : List Hd) (m : Int) : Int := hs.foldl (holdM l i) m
def blkA (l : List Jb) (i : Nat) (ins : Int) : Nat → Int
  | 0 => 0
  | k + 1 => match l[k]? with
    | none => blkA l i ins k
    | some j => if bef l i k then holds l i j.se (max (blkA l i ins k) ins) else blkA l i ins k
def blk (l : List Jb) (i : Nat) (ins : Int) : Int := blkA l i ins l.length

theorem holds_ge {l : List Jb} {i : Nat} : ∀ {hs : List Hd} {m : Int}, m ≤ holds l i hs m
  | [], m => Int.le_refl m
  | h :: hs, m => by
    have := holds_ge (l := l) (i := i) (hs := hs) (m := holdM l i m h)
    refine Int.le_trans ?_ this
    unfold holdM
    split <;> omega
theorem holds_le {l : List Jb} {i : Nat} {b : Int} : ∀ {hs : List Hd} {m : Int}, m ≤ b → (∀ h ∈ hs, reach l i h.re = true → h.co ≤ b) → holds l i hs m ≤ b
  | [], m, h, _ => h
  | h :: hs, m, hm, hh => by
    refine holds_le (hs := hs) ?_ fun h' hm' => hh h' (List.mem_cons_of_mem _ hm')
    unfold holdM
    split
    · rename_i hr
      have := hh h List.mem_cons_self hr
      omega
    · exact hm
theorem holds_mem {l : List Jb} {i : Nat} : ∀ {hs : List Hd} {m : Int} {h : Hd}, h ∈ hs → reach l i h.re = true → h.co ≤ holds l i hs m
  | [], _, _, h, _ => by cases h
  | h' :: hs, m, h, hm, hr => by
    rcases List.mem_cons.1 hm with rfl | hm
    · refine Int.le_trans ?_ (holds_ge (hs := hs))
      unfold holdM
      rw [if_pos hr]
      omega
    · exact holds_mem (hs := hs) hm hr
/-- The blocking of the jobs below n: the least number that is at least what each can cause. -/
theorem blkA_le {l : List Jb} {i : Nat} {ins b : Int} : ∀ {n : Nat}, n ≤ l.length → (blkA l i ins n ≤ b ↔ 0 ≤ b ∧ ∀ (k : Nat) (hk : k < l.length), k < n → bef l i k = true → ins ≤ b ∧ ∀ h ∈ l[k].se, reach l i h.re = true → h.co ≤ b)
  | 0, _ => by simp [blkA]
  | n + 1, hn => by
    have ih := blkA_le (l := l) (i := i) (ins := ins) (b := b) (n := n) (by omega)
    unfold blkA
    rw [List.getElem?_eq_getElem (by omega)]
    simp only
    split
    · rename_i hb
      constructor
      · intro h
        have h1 := Int.le_trans holds_ge h
        have h2 := ih.1 (by omega)
        refine ⟨h2.1, fun k hk hkn hbk => ?_⟩
        by_cases e : k = n
        · subst e
          exact ⟨by omega, fun x hx hr => Int.le_trans (holds_mem hx hr) h⟩
        · exact h2.2 k hk (by omega) hbk
      · rintro ⟨h0, h⟩
        have hme := h n (by omega) (by omega) hb
        have := ih.2 ⟨h0, fun k hk hkn => h k hk (by omega)⟩
        exact holds_le (by omega) hme.2
    · rename_i hb
      rw [ih]
      constructor
      · rintro ⟨h0, h⟩
        refine ⟨h0, fun k hk hkn hbk => ?_⟩
        by_cases e : k = n
        · subst e; exact absurd hbk hb
        · exact h k hk (by omega) hbk
      · rintro ⟨h0, h⟩
        exact ⟨h0, fun k hk hkn => h k hk (by omega)⟩
theorem blk_le {l : List Jb} {i : Nat} {ins b : Int} : blk l i ins ≤ b ↔ 0 ≤ b ∧ ∀ (k : Nat) (hk : k < l.length), bef l i k = true → ins ≤ b ∧ ∀ h ∈ l[k].se, reach l i h.re = true → h.co ≤ b := by
  unfold blk
  rw [blkA_le (Nat.le_refl _)]
  exact and_congr_right fun _ => forall_congr' fun k => forall_congr' fun hk => ⟨fun h => h hk, fun h _ => h⟩
theorem blkA_nonneg {l : List Jb} {i : Nat} {ins : Int} {n : Nat} (hn : n ≤ l.length) : 0 ≤ blkA l i ins n := ((blkA_le hn).1 (Int.le_refl _)).1
theorem blk_nonneg (l : List Jb) (i : Nat) (ins : Int) : 0 ≤ blk l i ins := blkA_nonneg (Nat.le_refl _)
theorem blk_small {l : List Jb} {i : Nat} {ins : Int} (hl : validL l) (h0 : 0 ≤ ins) (h1 : ins ≤ 16777216) : blk l i ins ≤ 16777216 := by
  rw [blk_le]
  exact ⟨by omega, fun k hk _ => ⟨h1, fun h hm _ => ((hl.get hk).2 h hm).2.2⟩⟩

/-! ### Demand -/
def term (l : List Jb) (i : Nat) (t : Int) (k : Nat) : Int := match l[k]? with
  | some j => if bef l k i then ceil (t + j.ji) j.pe * (j.co + j.ev) else 0
  | none => 0
def sumA (l : List Jb) (i : Nat) (t : Int) : Nat → Int
  | 0 => 0
  | k + 1 => sumA l i t k + term l i t k
def coOf (l : List Jb) (i : Nat) : Int := match l[i]? with
  | some j => j.co
  | none => 0
def dem (l : List Jb) (x : Rt) (i : Nat) (ins miss t : Int) : Int := blk l i ins + coOf l i + most x miss t + sumA l i t l.length
theorem coOf_eq {l : List Jb} {i : Nat} (h : i < l.length) : coOf l i = l[i].co := by
  unfold coOf
  rw [List.getElem?_eq_getElem h]

theorem term_bounds {l : List Jb} (hl : validL l) {i k : Nat} {t : Int} (h0 : 0 ≤ t) (h1 : t ≤ 16777216) : 0 ≤ term l i t k ∧ term l i t k ≤ 1125899906842624 := by
  unfold term
  split
  · rename_i j hj
    obtain ⟨hk, rfl⟩ := List.getElem?_eq_some_iff.1 hj
    obtain ⟨⟨h2, h3, h4, h5, h6, h7⟩, _⟩ := hl.get hk
    split
    · have c0 := ceil_nonneg (t + l[k].ji) l[k].pe (by omega)
      have c1 := ceil_le (t + l[k].ji) l[k].pe (by omega)
      have := Int.mul_nonneg c0 (by omega : 0 ≤ l[k].co + l[k].ev)
      have := Int.mul_le_mul (by omega : ceil (t + l[k].ji) l[k].pe ≤ 33554432) (by omega : l[k].co + l[k].ev ≤ 33554432) (by omega) (by omega)
      omega
    · omega
  · omega
theorem sumA_bounds {l : List Jb} (hl : validL l) {i : Nat} {t : Int} (h0 : 0 ≤ t) (h1 : t ≤ 16777216) : ∀ (n : Nat), 0 ≤ sumA l i t n ∧ sumA l i t n ≤ 1125899906842624 * n
  | 0 => by simp [sumA]
  | n + 1 => by
    have := sumA_bounds hl h0 h1 (i := i) n
    have := term_bounds hl h0 h1 (i := i) (k := n)
    unfold sumA
    omega
theorem most_bounds (x : Rt) (e n : Int) (hx : Small x) (h0 : 0 ≤ e) (h1 : e ≤ 80000) (h2 : 0 ≤ n) (h3 : n ≤ 16777216) : 0 ≤ most x e n ∧ most x e n ≤ 844424930131968 := by
  obtain ⟨hdi, hpe, hwi, hde, hpa, her⟩ := hx
  have he1 : 0 ≤ e * x.er := Int.mul_nonneg h0 her.1
  have he2 : e * x.er ≤ 80000 * 200 := Int.mul_le_mul h1 her.2 her.1 (by omega)
  have c1 := ceil_nonneg n x.di h2
  have c2 := ceil_nonneg n x.pe h2
  have c3 := ceil_nonneg n x.wi h2
  have d1 := ceil_le n x.di h2
  have d2 := ceil_le n x.pe h2
  have d3 := ceil_le n x.wi h2
  have p1 := prod_le x.de (ceil n x.di) hde.1 hde.2 c1 (by omega)
  have p2 := prod_le x.pa (ceil n x.pe) hpa.1 hpa.2 c2 (by omega)
  have p3 := prod_le (e * x.er) (ceil n x.wi) he1 (by omega) c3 (by omega)
  unfold most
  omega
theorem dem_bounds {l : List Jb} (hl : validL l) {x : Rt} (hx : Small x) {i : Nat} {ins miss t : Int} (hi : 0 ≤ ins ∧ ins ≤ 16777216) (hm : 0 ≤ miss ∧ miss ≤ 80000) (h0 : 0 ≤ t) (h1 : t ≤ 16777216) : 0 ≤ dem l x i ins miss t ∧ dem l x i ins miss t ≤ 36028797018963968 := by
  have b0 := blk_nonneg l i ins
  have b1 := blk_small (i := i) hl hi.1 hi.2
  have m := most_bounds x miss t hx hm.1 hm.2 h0 h1
  have s := sumA_bounds hl h0 h1 (i := i) l.length
  have := hl.1
  have c : 0 ≤ coOf l i ∧ coOf l i ≤ 16777216 := by
    unfold coOf
    split
    · rename_i j hj
      obtain ⟨hk, rfl⟩ := List.getElem?_eq_some_iff.1 hj
      exact (hl.get hk).1.2.2.2.2.1
    · omega
  unfold dem
  omega

/-! ### The least time that is enough -/
def seek (D : Int → Int) : Nat → Int → Option Int
  | 0, _ => none
  | n + 1, t => if D t ≤ t then some t else seek D n (t + 1)
theorem seek_some {D : Int → Int} : ∀ {n : Nat} {t r : Int}, seek D n t = some r → t ≤ r ∧ r < t + n ∧ D r ≤ r ∧ ∀ s, t ≤ s → s < r → s < D s
  | 0, _, _, h => by simp [seek] at h
  | n + 1, t, r, h => by
    unfold seek at h
    split at h
    · cases h
      exact ⟨Int.le_refl _, by omega, by assumption, fun s h1 h2 => by omega⟩
    · obtain ⟨h1, h2, h3, h4⟩ := seek_some h
      refine ⟨by omega, by omega, h3, fun s hs1 hs2 => ?_⟩
      by_cases e : s = t
      · subst e; omega
      · exact h4 s (by omega) hs2
theorem seek_none {D : Int → Int} : ∀ {n : Nat} {t : Int}, seek D n t = none → ∀ s, t ≤ s → s < t + n → s < D s
  | 0, _, _, s, h1, h2 => by omega
  | n + 1, t, h, s, h1, h2 => by
    unfold seek at h
    split at h
    · cases h
    · by_cases e : s = t
      · subst e; omega
      · exact seek_none h s (by omega) (by omega)
theorem seek_of {D : Int → Int} {n : Nat} {t r : Int} (h1 : t ≤ r) (h2 : r < t + n) (h3 : D r ≤ r) (h4 : ∀ s, t ≤ s → s < r → s < D s) : seek D n t = some r := by
  cases h : seek D n t with
  | none => have := seek_none h r h1 h2; omega
  | some q =>
    obtain ⟨g1, g2, g3, g4⟩ := seek_some h
    rcases Int.lt_trichotomy q r with e | e | e
    · have := h4 q g1 e; omega
    · rw [e]
    · have := g4 r h1 e; omega
theorem seek_no {D : Int → Int} {n : Nat} {t : Int} (h : ∀ s, t ≤ s → s < t + n → s < D s) : seek D n t = none := by
  cases h' : seek D n t with
  | none => rfl
  | some q =>
    obtain ⟨g1, g2, g3, g4⟩ := seek_some h'
    have := h q g1 g2
    omega
def resp (D : Int → Int) (j d : Int) : Option Int := seek D (d - j).toNat 1
theorem resp_some {D : Int → Int} {j d r : Int} : resp D j d = some r ↔ 1 ≤ r ∧ r + j ≤ d ∧ D r ≤ r ∧ ∀ s, 1 ≤ s → s < r → s < D s := by
  constructor
  · intro h
    obtain ⟨h1, h2, h3, h4⟩ := seek_some h
    exact ⟨h1, by omega, h3, h4⟩
  · rintro ⟨h1, h2, h3, h4⟩
    exact seek_of h1 (by omega) h3 h4
theorem resp_none {D : Int → Int} {j d : Int} : resp D j d = none ↔ ∀ s, 1 ≤ s → s + j ≤ d → s < D s := by
  constructor
  · intro h s h1 h2
    exact seek_none h s h1 (by omega)
  · intro h
    exact seek_no fun s h1 h2 => h s h1 (by omega)

theorem ceil_mono {a b c : Int} (h : a ≤ b) : ceil a c ≤ ceil b c := by
  unfold ceil
  split
  · omega
  · exact Int.ediv_le_ediv (by omega) (by omega)
theorem most_mono {x : Rt} (hx : Small x) {e a b : Int} (he : 0 ≤ e) (h : a ≤ b) : most x e a ≤ most x e b := by
  unfold most
  have h1 := Int.mul_le_mul_of_nonneg_left (ceil_mono h : ceil a x.di ≤ ceil b x.di) hx.de.1
  have h2 := Int.mul_le_mul_of_nonneg_left (ceil_mono h : ceil a x.pe ≤ ceil b x.pe) hx.pa.1
  have h3 := Int.mul_le_mul_of_nonneg_left (ceil_mono h : ceil a x.wi ≤ ceil b x.wi) (Int.mul_nonneg he hx.er.1)
  omega
theorem term_mono {l : List Jb} (hl : validL l) {i k : Nat} {a b : Int} (h : a ≤ b) : term l i a k ≤ term l i b k := by
  unfold term
  split
  · rename_i j hj
    obtain ⟨hk, rfl⟩ := List.getElem?_eq_some_iff.1 hj
    obtain ⟨⟨h2, h3, h4, h5, h6, h7⟩, _⟩ := hl.get hk
    split
    · exact Int.mul_le_mul_of_nonneg_right (ceil_mono (by omega)) (by omega)
    · omega
  · omega
theorem sumA_mono {l : List Jb} (hl : validL l) {i : Nat} {a b : Int} (h : a ≤ b) : ∀ n, sumA l i a n ≤ sumA l i b n
  | 0 => Int.le_refl _
  | n + 1 => by
    have := sumA_mono hl h (i := i) n
    have := term_mono hl h (i := i) (k := n)
    unfold sumA
    omega
theorem dem_mono {l : List Jb} (hl : validL l) {x : Rt} (hx : Small x) {i : Nat} {ins miss a b : Int} (hm : 0 ≤ miss) (h : a ≤ b) : dem l x i ins miss a ≤ dem l x i ins miss b := by
  have h1 := most_mono hx hm h
  have h2 := sumA_mono hl h (i := i) l.length
  unfold dem
  omega

/-- Of a job: its response time. -/
def rt (l : List Jb) (x : Rt) (ins miss : Int) (i : Nat) : Option Int := match l[i]? with
  | some j => resp (dem l x i ins miss) j.ji j.de
  | none => none
theorem rt_eq {l : List Jb} {x : Rt} {ins miss : Int} {i : Nat} (h : i < l.length) : rt l x ins miss i = resp (dem l x i ins miss) l[i].ji l[i].de := by
  unfold rt
  rw [List.getElem?_eq_getElem h]
def okC (l : List Jb) (x : Rt) (ins miss : Int) : Prop := validL l ∧ validR x ∧ (0 ≤ ins ∧ ins ≤ 16777216) ∧ (0 ≤ miss ∧ miss ≤ 100)
instance (l : List Jb) (x : Rt) (ins miss : Int) : Decidable (okC l x ins miss) := by unfold okC; infer_instance
theorem validR.small {x : Rt} (h : validR x) : Small x := by
  obtain ⟨h1, h2, h3, h4, h5, h6, h7⟩ := h
  constructor <;> omega

/-- The answers of the jobs below n. -/
def ansA (l : List Jb) (x : Rt) (ins miss : Int) : Nat → Option (List An)
  | 0 => some []
  | n + 1 => match ansA l x ins miss n, rt l x ins miss n with
    | some al, some t => some (al ++ [⟨blk l n ins, t⟩])
    | _, _ => none
def ans (l : List Jb) (x : Rt) (ins miss : Int) : Option (List An) := ansA l x ins miss l.length
theorem ansA_none {l : List Jb} {x : Rt} {ins miss : Int} {n : Nat} (h : ansA l x ins miss n = none) : ∀ k, ansA l x ins miss (n + k) = none
  | 0 => h
  | k + 1 => by
    have := ansA_none h k
    rw [← Nat.add_assoc]
    unfold ansA
    rw [this]
theorem ans_none {l : List Jb} {x : Rt} {ins miss : Int} {n : Nat} (hn : n < l.length) (h : rt l x ins miss n = none) : ans l x ins miss = none := by
  have : ansA l x ins miss (n + 1) = none := by
    unfold ansA
    rw [h]
    cases ansA l x ins miss n <;> rfl
  have := ansA_none this (l.length - (n + 1))
  unfold ans
  rwa [show n + 1 + (l.length - (n + 1)) = l.length by omega] at this
theorem ansA_some {l : List Jb} {x : Rt} {ins miss : Int} : ∀ {n : Nat} {al : List An}, ansA l x ins miss n = some al → al.length = n ∧ ∀ (i : Nat) (a : An), al[i]? = some a → a.bl = blk l i ins ∧ rt l x ins miss i = some a.re
  | 0, al, h => by cases h; simp
  | n + 1, al, h => by
    unfold ansA at h
    split at h
    · rename_i al0 t h1 h2
      cases h
      obtain ⟨g1, g2⟩ := ansA_some h1
      refine ⟨by simp [g1], fun i a hi => ?_⟩
      rw [List.getElem?_append] at hi
      split at hi
      · exact g2 i a hi
      · have : i = n := by
          have := (List.getElem?_eq_some_iff.1 hi).1
          simp at this
          omega
        subst this
        simp [g1] at hi
        subst hi
        exact ⟨rfl, h2⟩
    · cases h
theorem ans_isSome {l : List Jb} {x : Rt} {ins miss : Int} : (ans l x ins miss).isSome = true ↔ ∀ i, i < l.length → (rt l x ins miss i).isSome = true := by
  constructor
  · intro h i hi
    cases h' : rt l x ins miss i with
    | some t => rfl
    | none => rw [ans_none hi h'] at h; cases h
  · intro h
    have key : ∀ n, n ≤ l.length → (ansA l x ins miss n).isSome = true := by
      intro n
      induction n with
      | zero => intro _; rfl
      | succ n ih =>
        intro hn
        obtain ⟨al, hal⟩ := Option.isSome_iff_exists.1 (ih (by omega))
        obtain ⟨t, ht⟩ := Option.isSome_iff_exists.1 (h n (by omega))
        unfold ansA
        rw [hal, ht]
        rfl
    exact key _ (Nat.le_refl _)
end Go.Proofs.Ytjamehpnclkjdaa
