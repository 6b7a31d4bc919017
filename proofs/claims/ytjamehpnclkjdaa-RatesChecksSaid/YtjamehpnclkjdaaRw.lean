/- From what a statement says of its arguments to the logic. It bears no statement of its own. -/
import Derived.Test.YtjamehpnclkjdaaLn
import Derived.Below
namespace Go.Proofs.Ytjamehpnclkjdaa
open Go Go.Ls Go.RowKit
set_option linter.unusedVariables false
def IsRow (k : IntKind) (w : World) (a : Option Addr) (len cap : Nat) (zs : List Int) : Prop :=
  (a = none ∧ len = 0 ∧ cap = 0 ∧ zs = []) ∨
  ∃ x, a = some x ∧ len ≤ cap ∧ cap ≤ maxLen ∧ zs.length = cap ∧ (∀ i, i < zs.length → w.cell? (x.add i) = some (.int k (zs.getD i 0))) ∧ ∀ n ∈ zs, (Lit.int k n).wf = true

theorem no_spot {w : World} {a : Addr} {v : Value} (h : w.cell? a = some v) : a.spot = none := by
  unfold World.cell? at h
  split at h
  · split at h
    · exact (by simp at h)
    · rename_i hs
      simpa using hs
  · simp at h

theorem add_none (b o i : Nat) : Addr.add ⟨b, o, none⟩ i = ⟨b, o + i, none⟩ := by
  unfold Addr.add
  split
  · rename_i h
    subst h
    rfl
  · rfl

theorem ints_vr {w : World} {F : Nat → Prop} {a : Option Addr} {len cap : Nat} {zs : List Int} (h : IsRow .i64 w a len cap zs) (hF : ∀ b, ¬ F b) :
    ∃ ls : List Int, ls.length = len ∧ VR w F (.ro 1 (ls.map fun n => .val (.int .i64 n))) (.slice a len cap) := by
  rcases h with ⟨rfl, rfl, rfl, rfl⟩ | ⟨x, rfl, hl, hm, hz, hc, hw⟩
  · exact ⟨[], rfl, .nil⟩
  · refine ⟨zs.take len, by simp; omega, ?_⟩
    by_cases h0 : len = 0
    · subst h0
      simp only [List.take_zero, List.map_nil]
      exact .nil
    · have hx := hc 0 (by omega)
      have hs : x.spot = none := no_spot hx
      have hlt := lt_of_cell hx
      obtain ⟨xb, xo, xs⟩ := x
      simp only at hs
      subst hs
      have e : len = ((zs.take len).map fun n => LV.val (.int .i64 n)).length := by simp; omega
      have := VR.ro (w := w) (F := F) (sz := 1) (b := xb) (o := xo) (cap := cap) (xs := (zs.take len).map fun n => LV.val (.int .i64 n)) (fun i _ => .int .i64 (zs.getD i 0)) (hF _) (by simpa [Addr.add] using hlt) (by simp; omega)
        (fun i y hy => ?_) (fun i y j c hy hj => ?_) (fun i y j c hy hj => ?_) (fun i y j c hy hj => ?_)
      · rw [← e] at this
        exact this
      all_goals
        simp only [List.getElem?_map, Option.map_eq_some_iff] at hy
        obtain ⟨n, hn, rfl⟩ := hy
        rw [List.getElem?_take] at hn
        replace hn : zs[i]? = some n := by
          split at hn
          · exact hn
          · simp at hn
        have hi : i < zs.length := (List.getElem?_eq_some_iff.1 hn).1
        have hg : zs.getD i 0 = n := by simp [List.getD, hn]
      · rfl
      all_goals
        cases j <;> simp [LV.cells] at hj
        subst hj
      · rfl
      · have := hc i hi
        rw [show (⟨xb, xo + (i * 1 + 0), none⟩ : Addr) = Addr.add ⟨xb, xo, none⟩ i by rw [Nat.mul_one, Nat.add_zero]; exact (add_none xb xo i).symm]
        exact this
      · rw [hg]
        exact .val _

/-- What the logic says of a call, as the kit says it. -/
theorem calls_of {P : Program} {f : FuncId} {xs : List LV} {vs : Array Value} {w : World} {v : Value} (h : LCalls P f xs [] fun r _ => r = .val v) (hl : xs.length = vs.size)
    (hv : ∀ (i : Nat) (x : LV) (v : Value), xs[i]? = some x → vs[i]? = some v → VR w (fun _ => False) x v) : Calls P f vs w fun e w' => e = .returned v ∧ Below w.heap.size w w' := by
  refine (h.2 (fun _ => False) w vs (fun b hb => hb.elim) ⟨fun p hp => by simp at hp, by simp⟩ hl fun i x v h1 h2 => (hv i x v h1 h2).shrink fun b hb => hb.elim (fun h => (dom_nil h)) _root_.id).mono fun e w' hp => ?_
  obtain ⟨v', x, σ', rfl, rfl, _, hr, hs⟩ := hp
  cases hr
  exact ⟨rfl, hs.os, hs.tape, hs.output, hs.still.1, fun k hk => hs.still.2 k hk fun h => dom_nil h⟩
end Go.Proofs.Ytjamehpnclkjdaa
