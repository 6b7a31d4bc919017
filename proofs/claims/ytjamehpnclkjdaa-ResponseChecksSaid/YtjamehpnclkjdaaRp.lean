/- From what a statement says of a slice of answers to the logic. It bears no statement of its own. -/
import Derived.Test.YtjamehpnclkjdaaRw
import Derived.Test.YtjamehpnclkjdaaS1
import Derived.Deep.SlicePairs
namespace Go.Proofs.Ytjamehpnclkjdaa
open Go Go.Ls Go.RowKit Go.ChangeShapes
set_option linter.unusedVariables false
instance : Inhabited An := ⟨⟨0, 0⟩⟩
theorem answers_vr {H : Type} {enc : TypeId × Value → H} {P : Program} {w : World} {base : Nat} {spare : Nat → Bool} {held : Bool} {F : Nat → Prop} {t e : TypeId} {f0 f1 : Field} {fuel : Nat} {a : Option Addr} {len cap : Nat} {x : DataW H × List MemPlace}
    (ht : P.underlying t = some (.slice e)) (he : P.underlying e = some (.struct #[f0, f1])) (ce : P.cellsOf e = 2) (o0 : f0.offset = 0) (o1 : f1.offset = 1) (c0 : P.cellsOf f0.type = 1) (c1 : P.cellsOf f1.type = 1)
    (i0 : P.underlying f0.type = some (.int .i64)) (i1 : P.underlying f1.type = some (.int .i64)) (hF : ∀ b, ¬ F b)
    (h : DataW.trod enc P w base spare held fuel t [.slice a len cap] = some x) : ∃ raw : List An, VR w F (.ro 2 (raw.map An.lv)) (.slice a len cap) := by
  rcases Go.Deep.open_slice_pairs ht he ce o0 o1 c0 c1 h with ⟨hcs, _⟩ | ⟨y, l, c, m, n, V0, V1, D0, D1, P0, P1, hcs, _, hl, hm, hmm, hx, hcell⟩
  · simp at hcs
    obtain ⟨rfl, rfl, rfl⟩ := hcs
    exact ⟨[], .nil⟩
  · simp at hcs
    obtain ⟨rfl, rfl, rfl⟩ := hcs
    have hlm : len ≤ m := by rw [hmm]; split <;> omega
    have each : ∀ i, i < len → ∃ q : An, w.cell? (y.add (i * 2)) = some (.int .i64 q.bl) ∧ w.cell? (y.add (i * 2 + 1)) = some (.int .i64 q.re) := fun i hi => by
      obtain ⟨g0, g1, t0, t1⟩ := hcell i (by omega)
      obtain ⟨z0, e0, _⟩ := DataW.trod_int i0 t0
      obtain ⟨z1, e1, _⟩ := DataW.trod_int i1 t1
      simp only [List.cons.injEq, and_true] at e0 e1
      exact ⟨⟨z0, z1⟩, by rw [g0, e0], by rw [g1, e1]⟩
    obtain ⟨q, hq⟩ := Go.Deep.choose_lt each
    by_cases h0 : len = 0
    · subst h0
      exact ⟨[], .nil⟩
    · have hz := (hq 0 (by omega)).1
      have hs : y.spot = none := by
        have := no_spot hz
        unfold Addr.add at this
        split at this <;> simp_all
      have hlt := lt_of_cell hz
      obtain ⟨yb, yo, ys⟩ := y
      simp only at hs
      subst hs
      refine ⟨(List.range len).map q, ?_⟩
      have e : len = (((List.range len).map q).map An.lv).length := by simp
      have key : ∀ (i : Nat) (z : LV), (((List.range len).map q).map An.lv)[i]? = some z → i < len ∧ z = (q i).lv := by
        intro i z hz
        simp only [List.getElem?_map, Option.map_eq_some_iff] at hz
        obtain ⟨a1, ⟨a2, h2, rfl⟩, rfl⟩ := hz
        have := List.getElem?_eq_some_iff.1 h2
        obtain ⟨h3, h4⟩ := this
        simp at h3 h4
        subst h4
        exact ⟨h3, rfl⟩
      have := VR.ro (w := w) (F := F) (sz := 2) (b := yb) (o := yo) (cap := cap) (xs := ((List.range len).map q).map An.lv) (fun i j => if j = 0 then .int .i64 (q i).bl else .int .i64 (q i).re) (hF _) (by simpa [Addr.add] using hlt) (by simp; omega)
        (fun i z hz => ?_) (fun i z j d hz hj => ?_) (fun i z j d hz hj => ?_) (fun i z j d hz hj => ?_)
      · rw [← e] at this
        exact this
      all_goals
        obtain ⟨hi, rfl⟩ := key i z hz
      · rfl
      all_goals
        have hj2 : j < 2 := (List.getElem?_eq_some_iff.1 hj).1
        have hj3 : j = 0 ∨ j = 1 := by omega
        rcases hj3 with rfl | rfl
      all_goals
        simp at hj
        subst hj
      · rfl
      · rfl
      · have := (hq i hi).1
        rw [add_none] at this
        exact this
      · have := (hq i hi).2
        rw [add_none] at this
        exact this
      · exact .val _
      · exact .val _
end Go.Proofs.Ytjamehpnclkjdaa
