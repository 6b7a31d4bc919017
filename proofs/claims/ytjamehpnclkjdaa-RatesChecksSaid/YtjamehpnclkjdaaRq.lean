/- From what a statement says of rates and of a slice of disturbances to the logic. It bears no statement of its own. -/
import Derived.Test.YtjamehpnclkjdaaRw
import Derived.Test.YtjamehpnclkjdaaR3
import Derived.Deep.Slices
namespace Go.Proofs.Ytjamehpnclkjdaa
open Go Go.Ls Go.RowKit Go.ChangeShapes Go.WideShapes
set_option linter.unusedVariables false
section
variable {H : Type} {enc : TypeId × Value → H} {P : Program} {w : World} {base : Nat} {spare : Nat → Bool} {held : Bool}
theorem field_some {fs : Array Field} {t : TypeId} {fuel : Nat} {cs : List Value} {x : DataW H × List MemPlace} (ht : P.underlying t = some (.struct fs)) (h : DataW.trod enc P w base spare held fuel t cs = some x) {i : Nat} {f : Field} (hf : fs[i]? = some f) :
    ∃ n y, DataW.trod enc P w base spare held n f.type ((cs.drop f.offset).take (P.cellsOf f.type)) = some y := by
  obtain ⟨xs, n, _, _, _, hlen, hg⟩ := DataW.trod_struct ht h
  have hi : i < xs.length := by rw [hlen]; exact (Array.getElem?_eq_some_iff.1 hf).1
  exact ⟨n, xs[i], by rw [hg i f hf, List.getElem?_eq_getElem hi]⟩
theorem at_of_take {cs : List Value} {o : Nat} {v : Value} (h : (cs.drop o).take 1 = [v]) : cs[o]? = some v := by
  have := congrArg (fun l => l[0]?) h
  simpa [List.getElem?_take] using this
theorem field_int {fs : Array Field} {t : TypeId} {fuel : Nat} {cs : List Value} {x : DataW H × List MemPlace} (ht : P.underlying t = some (.struct fs)) (h : DataW.trod enc P w base spare held fuel t cs = some x) {i : Nat} {f : Field} (hf : fs[i]? = some f)
    (hc : P.cellsOf f.type = 1) (hu : P.underlying f.type = some (.int .i64)) : ∃ z, cs[f.offset]? = some (.int .i64 z) := by
  obtain ⟨n, y, hy⟩ := field_some ht h hf
  rw [hc] at hy
  obtain ⟨z, hz, _⟩ := DataW.trod_int hu hy
  exact ⟨z, at_of_take hz⟩
theorem field_bool {fs : Array Field} {t : TypeId} {fuel : Nat} {cs : List Value} {x : DataW H × List MemPlace} (ht : P.underlying t = some (.struct fs)) (h : DataW.trod enc P w base spare held fuel t cs = some x) {i : Nat} {f : Field} (hf : fs[i]? = some f)
    (hc : P.cellsOf f.type = 1) (hu : P.underlying f.type = some .bool) : ∃ z, cs[f.offset]? = some (.bool z) := by
  obtain ⟨n, y, hy⟩ := field_some ht h hf
  rw [hc] at hy
  obtain ⟨z, hz, _⟩ := DataW.trod_bool hu hy
  exact ⟨z, at_of_take hz⟩
end
instance : Inhabited Db := ⟨⟨0, 0, false, 0, 0⟩⟩
theorem rates_vr {H : Type} {enc : TypeId × Value → H} {w : World} {base : Nat} {spare : Nat → Bool} {held : Bool} {cs : Array Value} {d : DataW H} {ps : List MemPlace} (hs : cs.size = Try.prog.cellsOf 37)
    (h : DataW.Trod enc Try.prog w base spare held 37 (.agg cs) d ps) : ∃ x : Rt, cs = #[.int .i64 x.di, .int .i64 x.de, .int .i64 x.pe, .int .i64 x.pa, .int .i64 x.wi, .int .i64 x.er] := by
  obtain ⟨n, hn⟩ := h
  have h6 : Try.prog.cellsOf 37 = 6 := by kernel_rfl
  have c3 : Try.prog.cellsOf 3 = 1 := by kernel_rfl
  rw [h6] at hs
  have key : ∀ i f, _ → _ := fun i f (hf : _ = some f) => field_int (i := i) Try.underlying37 hn hf
  obtain ⟨x0, e0⟩ := key 0 _ rfl c3 Try.underlying3
  obtain ⟨x1, e1⟩ := key 1 _ rfl c3 Try.underlying3
  obtain ⟨x2, e2⟩ := key 2 _ rfl c3 Try.underlying3
  obtain ⟨x3, e3⟩ := key 3 _ rfl c3 Try.underlying3
  obtain ⟨x4, e4⟩ := key 4 _ rfl c3 Try.underlying3
  obtain ⟨x5, e5⟩ := key 5 _ rfl c3 Try.underlying3
  refine ⟨⟨x0, x1, x2, x3, x4, x5⟩, ?_⟩
  obtain ⟨l⟩ := cs
  match l, hs with
  | [a0, a1, a2, a3, a4, a5], _ =>
    simp [Value.cells] at e0 e1 e2 e3 e4 e5
    subst e0 e1 e2 e3 e4 e5
    rfl
theorem rates_agg {w : World} {F : Nat → Prop} (x : Rt) : VR w F x.lv (.agg #[.int .i64 x.di, .int .i64 x.de, .int .i64 x.pe, .int .i64 x.pa, .int .i64 x.wi, .int .i64 x.er]) := by
  refine .agg rfl fun i c v h1 h2 => ?_
  rcases i with _ | _ | _ | _ | _ | _ | i
  all_goals first
    | (cases h1; cases h2; exact .val _)
    | simp at h2
theorem disturbs_vr {H : Type} {enc : TypeId × Value → H} {w : World} {base : Nat} {spare : Nat → Bool} {held : Bool} {F : Nat → Prop} {fuel : Nat} {a : Option Addr} {len cap : Nat} {x : DataW H × List MemPlace} (hF : ∀ b, ¬ F b)
    (h : DataW.trod enc Try.prog w base spare held fuel 38 [.slice a len cap] = some x) : ∃ raw : List Db, VR w F (.ro 5 (raw.map Db.lv)) (.slice a len cap) := by
  have h5 : Try.prog.cellsOf 43 = 5 := by kernel_rfl
  have c3 : Try.prog.cellsOf 3 = 1 := by kernel_rfl
  have c4 : Try.prog.cellsOf 4 = 1 := by kernel_rfl
  rcases Go.Deep.open_slice Try.underlying38 h with ⟨hcs, _⟩ | ⟨y, l, c, m, n, D, Pl, hcs, _, hl, hm, hmm, hx, hcell⟩
  · simp at hcs
    obtain ⟨rfl, rfl, rfl⟩ := hcs
    exact ⟨[], .nil⟩
  · simp at hcs
    obtain ⟨rfl, rfl, rfl⟩ := hcs
    rw [h5] at hcell
    have hlm : len ≤ m := by rw [hmm]; split <;> omega
    have each : ∀ i, i < len → ∃ q : Db, w.cell? (y.add (i * 5)) = some (.int .i64 q.t) ∧ w.cell? (y.add (i * 5 + 1)) = some (.int .i64 q.k) ∧ w.cell? (y.add (i * 5 + 2)) = some (.bool q.da) ∧ w.cell? (y.add (i * 5 + 3)) = some (.int .i64 q.s) ∧ w.cell? (y.add (i * 5 + 4)) = some (.int .i64 q.p) := fun i hi => by
      obtain ⟨cs, g0, g1⟩ := hcell i (by omega)
      obtain ⟨_, _, hg⟩ := World.cells?_some g0
      have key : ∀ i f, _ → _ := fun i f (hf : _ = some f) => field_int (i := i) Try.underlying43 g1 hf
      obtain ⟨x0, e0⟩ := key 0 _ rfl c3 Try.underlying3
      obtain ⟨x1, e1⟩ := key 1 _ rfl c3 Try.underlying3
      obtain ⟨x2, e2⟩ := field_bool (i := 2) Try.underlying43 g1 rfl c4 Try.underlying4
      obtain ⟨x3, e3⟩ := key 3 _ rfl c3 Try.underlying3
      obtain ⟨x4, e4⟩ := key 4 _ rfl c3 Try.underlying3
      have f0 := hg 0 (by omega)
      have f1 := hg 1 (by omega)
      have f2 := hg 2 (by omega)
      have f3 := hg 3 (by omega)
      have f4 := hg 4 (by omega)
      rw [Go.Deep.add_add] at f0 f1 f2 f3 f4
      exact ⟨⟨x0, x1, x2, x3, x4⟩, f0.trans e0, f1.trans e1, f2.trans e2, f3.trans e3, f4.trans e4⟩
    obtain ⟨q, hq⟩ := Go.Deep.choose_lt each
    by_cases h0 : len = 0
    · subst h0
      exact ⟨[], .nil⟩
    · have hz := (hq 0 (by omega)).1
      have hs : y.spot = none := by
        have := no_spot hz
        unfold Addr.add at this
        split at this <;> simp_all
      have hlt := lt_of_cell hz
      obtain ⟨yb, yo, ys⟩ := y
      simp only at hs
      subst hs
      refine ⟨(List.range len).map q, ?_⟩
      have e : len = (((List.range len).map q).map Db.lv).length := by simp
      have key : ∀ (i : Nat) (z : LV), (((List.range len).map q).map Db.lv)[i]? = some z → i < len ∧ z = (q i).lv := by
        intro i z hz
        simp only [List.getElem?_map, Option.map_eq_some_iff] at hz
        obtain ⟨a1, ⟨a2, h2, rfl⟩, rfl⟩ := hz
        have := List.getElem?_eq_some_iff.1 h2
        obtain ⟨h3, h4⟩ := this
        simp at h3 h4
        subst h4
        exact ⟨h3, rfl⟩
      have := VR.ro (w := w) (F := F) (sz := 5) (b := yb) (o := yo) (cap := cap) (xs := ((List.range len).map q).map Db.lv) (fun i j => [Value.int .i64 (q i).t, .int .i64 (q i).k, .bool (q i).da, .int .i64 (q i).s, .int .i64 (q i).p].getD j (.bool false)) (hF _) (by simpa [Addr.add] using hlt) (by simp; omega)
        (fun i z hz => ?_) (fun i z j d hz hj => ?_) (fun i z j d hz hj => ?_) (fun i z j d hz hj => ?_)
      · rw [← e] at this
        exact this
      all_goals
        obtain ⟨hi, rfl⟩ := key i z hz
      · rfl
      all_goals
        have hj2 : j < 5 := (List.getElem?_eq_some_iff.1 hj).1
        have hj3 : j = 0 ∨ j = 1 ∨ j = 2 ∨ j = 3 ∨ j = 4 := by omega
        have hqi := hq i hi
        simp only [add_none] at hqi
        rcases hj3 with rfl | rfl | rfl | rfl | rfl
      all_goals
        simp at hj
        subst hj
      all_goals first
        | rfl
        | exact .val _
        | exact hqi.1
        | exact hqi.2.1
        | exact hqi.2.2.1
        | exact hqi.2.2.2.1
        | exact hqi.2.2.2.2
end Go.Proofs.Ytjamehpnclkjdaa
