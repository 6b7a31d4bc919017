/- A small program logic over the kit's machine, part a: logical values, what they say of a machine's values, owned blocks. It bears no statement of its own. -/
import Derived.Calls
import Derived.Tactics
import Derived.RowKit3
import Derived.Laws.AppendOwn
import Derived.Laws.OwnMore
import Derived.Laws.MakeOwn
import Derived.Below
import Derived.OrdersHeld
namespace Go.Ls
open Go
set_option linter.unusedVariables false
set_option linter.unusedSimpArgs false

/-- A block that is owned: its number, the cells of an element, the cells of the block. -/
structure Blk where
  b : Nat
  sz : Nat
  room : Nat
  deriving DecidableEq

/-- Logical values: a machine's value itself; a struct or array; several results; a slice that is only read, with its elements; an address in memory that is only read, with the cells from there on; a slice in an owned block; an address in an owned block; a function with what it captured; anything. -/
inductive LV where
  | val (v : Value)
  | agg (cs : List LV)
  | tup (vs : List LV)
  | ro (sz : Nat) (xs : List LV)
  | adr (cs : List LV)
  | msl (B : Blk) (off len : Nat)
  | ref (B : Blk) (i j : Nat)
  | fn (f : FuncId) (cap : List LV)
  | any

instance : Inhabited LV := ⟨.any⟩

def LV.cells : LV → List LV
  | .agg cs => cs
  | v => [v]

/-- It lies in one cell. -/
def LV.one : LV → Bool
  | .agg _ | .tup _ | .any => false
  | .val v => v.oneCell'
  | _ => true

abbrev Fr := Nat → LV
abbrev Heap := List (Blk × List LV)

def dom (σ : Heap) (b : Nat) : Prop := ∃ p ∈ σ, p.1.b = b

/-- What a logical value says of a machine's value; the blocks of F are not looked into. -/
inductive VR (w : World) (F : Nat → Prop) : LV → Value → Prop
  | val (v : Value) : VR w F (.val v) v
  | agg {cs : List LV} {vs : Array Value} (hl : cs.length = vs.size) (h : ∀ (i : Nat) (c : LV) (v : Value), cs[i]? = some c → vs[i]? = some v → VR w F c v) : VR w F (.agg cs) (.agg vs)
  | tup {cs : List LV} {vs : Array Value} (hl : cs.length = vs.size) (h : ∀ (i : Nat) (c : LV) (v : Value), cs[i]? = some c → vs[i]? = some v → VR w F c v) : VR w F (.tup cs) (.tuple vs)
  | nil {sz cap : Nat} {a : Option Addr} : VR w F (.ro sz []) (.slice a 0 cap)
  | ro {sz b o cap : Nat} {xs : List LV} (vv : Nat → Nat → Value) (hF : ¬ F b) (hb : b < w.heap.size) (hc : xs.length ≤ cap)
      (hz : ∀ (i : Nat) (x : LV), xs[i]? = some x → x.cells.length = sz)
      (ho : ∀ (i : Nat) (x : LV) (j : Nat) (c : LV), xs[i]? = some x → x.cells[j]? = some c → c.one = true)
      (hw : ∀ (i : Nat) (x : LV) (j : Nat) (c : LV), xs[i]? = some x → x.cells[j]? = some c → w.cell? ⟨b, o + (i * sz + j), none⟩ = some (vv i j))
      (hr : ∀ (i : Nat) (x : LV) (j : Nat) (c : LV), xs[i]? = some x → x.cells[j]? = some c → VR w F c (vv i j)) : VR w F (.ro sz xs) (.slice (some ⟨b, o, none⟩) xs.length cap)
  | adr {b o : Nat} {cs : List LV} (vv : Nat → Value) (hF : ¬ F b) (hb : b < w.heap.size) (ho : ∀ (j : Nat) (c : LV), cs[j]? = some c → c.one = true)
      (hw : ∀ (j : Nat) (c : LV), cs[j]? = some c → w.cell? ⟨b, o + j, none⟩ = some (vv j)) (hr : ∀ (j : Nat) (c : LV), cs[j]? = some c → VR w F c (vv j)) : VR w F (.adr cs) (.pointer (some ⟨b, o, none⟩))
  | msl {B : Blk} {off len cap : Nat} (hc : len ≤ cap) (hm : cap ≤ maxLen) (hr : (off + cap) * B.sz = B.room) : VR w F (.msl B off len) (.slice (some ⟨B.b, off * B.sz, none⟩) len cap)
  | ref {B : Blk} {i j : Nat} : VR w F (.ref B i j) (.pointer (some ⟨B.b, i * B.sz + j, none⟩))
  | fn {f : FuncId} {cs : List LV} {vs : Array Value} (hl : cs.length = vs.size) (h : ∀ (i : Nat) (c : LV) (v : Value), cs[i]? = some c → vs[i]? = some v → VR w F c v) : VR w F (.fn f cs) (.func (.func f) #[] vs)
  | any (v : Value) : VR w F .any v

/-- The blocks that stood in w and are not in M are as they were. -/
def Still (M : Nat → Prop) (w w' : World) : Prop := w.heap.size ≤ w'.heap.size ∧ ∀ b, b < w.heap.size → ¬ M b → w'.heap[b]? = w.heap[b]?

theorem Still.refl {M : Nat → Prop} (w : World) : Still M w w := ⟨Nat.le_refl _, fun _ _ _ => rfl⟩
theorem Still.trans {M : Nat → Prop} {a b c : World} (h : Still M a b) (k : Still M b c) : Still M a c :=
  ⟨Nat.le_trans h.1 k.1, fun i hi hm => (k.2 i (Nat.lt_of_lt_of_le hi h.1) hm).trans (h.2 i hi hm)⟩
theorem Still.mono {M M' : Nat → Prop} {a b : World} (h : Still M a b) (hm : ∀ b, b < a.heap.size → M b → M' b) : Still M' a b :=
  ⟨h.1, fun i hi hn => h.2 i hi (fun hM => hn (hm i hi hM))⟩
theorem Still.drew {M : Nat → Prop} {a b : World} (h : Still M a b) : Still M a b.drew := h

theorem cell_of_block {w w' : World} {a : Addr} (h : w'.heap[a.block]? = w.heap[a.block]?) : w'.cell? a = w.cell? a := by
  unfold World.cell?
  rw [h]

theorem lt_of_cell {w : World} {a : Addr} {v : Value} (h : w.cell? a = some v) : a.block < w.heap.size := by
  unfold World.cell? at h
  cases hb : w.heap[a.block]? with
  | none => rw [hb] at h; simp at h
  | some o => exact (Array.getElem?_eq_some_iff.1 hb).1

/-- What is said stays true while the blocks outside F stay, and F does not grow into what stood. -/
theorem VR.stay {w w' : World} {F F' : Nat → Prop} (hs : Still F w w') (hF : ∀ b, b < w.heap.size → F' b → F b) {x : LV} {v : Value} (h : VR w F x v) : VR w' F' x v := by
  induction h with
  | val v => exact .val v
  | agg hl _ ih => exact .agg hl ih
  | tup hl _ ih => exact .tup hl ih
  | nil => exact .nil
  | ro vv hf hb hc hz ho hw _ ih =>
    exact .ro vv (fun h => hf (hF _ hb h)) (Nat.lt_of_lt_of_le hb hs.1) hc hz ho (fun i x j c h1 h2 => (cell_of_block (hs.2 _ hb hf)).trans (hw i x j c h1 h2)) ih
  | adr vv hf hb ho hw _ ih =>
    exact .adr vv (fun h => hf (hF _ hb h)) (Nat.lt_of_lt_of_le hb hs.1) ho (fun j c h1 => (cell_of_block (hs.2 _ hb hf)).trans (hw j c h1)) ih
  | msl hc hm hr => exact .msl hc hm hr
  | ref => exact .ref
  | fn hl _ ih => exact .fn hl ih
  | any v => exact .any v

theorem VR.shrink {w : World} {F F' : Nat → Prop} (hF : ∀ b, F' b → F b) {x : LV} {v : Value} (h : VR w F x v) : VR w F' x v := h.stay (Still.refl w) (fun b _ => hF b)

/-- An owned block holds its elements. -/
def Holds1 (w : World) (F : Nat → Prop) (p : Blk × List LV) : Prop :=
  ∃ cs e, w.heap[p.1.b]? = some (.cells cs e (0, 0)) ∧ cs.size = p.1.room ∧ (∀ (i : Nat) (x : LV), p.2[i]? = some x → x.cells.length = p.1.sz) ∧
    ∀ (i : Nat) (x : LV) (j : Nat) (c : LV), p.2[i]? = some x → x.cells[j]? = some c → c.one = true ∧ ∃ v, cs[i * p.1.sz + j]? = some v ∧ VR w F c v

def Holds (w : World) (F : Nat → Prop) (σ : Heap) : Prop := (∀ p ∈ σ, Holds1 w F p) ∧ (σ.map (·.1.b)).Nodup

theorem Holds1.lt {w : World} {F : Nat → Prop} {p : Blk × List LV} (h : Holds1 w F p) : p.1.b < w.heap.size := by
  obtain ⟨cs, e, h, _⟩ := h
  exact (Array.getElem?_eq_some_iff.1 h).1

theorem Holds.lt {w : World} {F : Nat → Prop} {σ : Heap} (h : Holds w F σ) {b : Nat} (hb : dom σ b) : b < w.heap.size := by
  obtain ⟨p, hp, rfl⟩ := hb
  exact (h.1 p hp).lt

theorem Holds1.stay {w w' : World} {F F' : Nat → Prop} {p : Blk × List LV} (hs : Still F w w') (hF : ∀ b, b < w.heap.size → F' b → F b) (hp : w'.heap[p.1.b]? = w.heap[p.1.b]?) (h : Holds1 w F p) : Holds1 w' F' p := by
  obtain ⟨cs, e, h1, h2, h3, h4⟩ := h
  refine ⟨cs, e, hp.trans h1, h2, h3, fun i x j c hx hc => ?_⟩
  obtain ⟨ho, v, hv, hr⟩ := h4 i x j c hx hc
  exact ⟨ho, v, hv, hr.stay hs hF⟩

/-- From the world at a call to the world behind it: D what was owned, D' what is. -/
structure Step (w w' : World) (D D' : Nat → Prop) : Prop where
  os : w'.os = w.os
  tape : w'.tape = w.tape
  output : w'.output = w.output
  still : Still D w w'
  own : ∀ b, D' b → b < w.heap.size → D b

theorem Step.refl (w : World) (D : Nat → Prop) : Step w w D D := ⟨rfl, rfl, rfl, Still.refl w, fun _ h _ => h⟩

theorem Step.trans {a b c : World} {D0 D1 D2 : Nat → Prop} (h : Step a b D0 D1) (k : Step b c D1 D2) : Step a c D0 D2 :=
  ⟨k.os.trans h.os, k.tape.trans h.tape, k.output.trans h.output,
   ⟨Nat.le_trans h.still.1 k.still.1, fun i hi hn => (k.still.2 i (Nat.lt_of_lt_of_le hi h.still.1) (fun hd => hn (h.own i hd hi))).trans (h.still.2 i hi hn)⟩,
   fun i hd hi => h.own i (k.own i hd (Nat.lt_of_lt_of_le hi h.still.1)) hi⟩

/-- The state of a function under way: n its temporaries, w0 the world of its call, D0 what was owned then, G what is shut besides. -/
structure Rel (n : Nat) (w0 : World) (D0 G : Nat → Prop) (fr : Fr) (σ : Heap) (a : Act) (w : World) : Prop where
  defers : a.defers = []
  size : a.tmps.size = n
  frame : ∀ t, VR w (fun b => dom σ b ∨ G b) (fr t) (a.tmps.getD t undef)
  holds : Holds w (fun b => dom σ b ∨ G b) σ
  shut : ∀ b, G b → b < w0.heap.size ∧ ¬ D0 b
  step : Step w0 w D0 (dom σ)

theorem Rel.apart {n : Nat} {w0 : World} {D0 G : Nat → Prop} {fr : Fr} {σ : Heap} {a : Act} {w : World} (h : Rel n w0 D0 G fr σ a w) {b : Nat} (hg : G b) : ¬ dom σ b :=
  fun hd => (h.shut b hg).2 (h.step.own b hd (h.shut b hg).1)

/-- A function with a body. -/
def isGo (P : Program) (f : FuncId) : Bool := match P.funcs[f]? with
  | some fn => fn.name != "runtime.NumGoroutine" && fn.body.isSome
  | none => false

/-- Called with what args says, owning σ, it returns, and R holds of what it returns and owns then; what it did not own is as it was. -/
def LCalls (P : Program) (f : FuncId) (args : List LV) (σ : Heap) (R : LV → Heap → Prop) : Prop :=
  isGo P f = true ∧ ∀ (G : Nat → Prop) (w : World) (vs : Array Value), (∀ b, G b → b < w.heap.size ∧ ¬ dom σ b) → Holds w (fun b => dom σ b ∨ G b) σ → args.length = vs.size →
    (∀ (i : Nat) (x : LV) (v : Value), args[i]? = some x → vs[i]? = some v → VR w (fun b => dom σ b ∨ G b) x v) →
    Calls P f vs w fun e w' => ∃ v x σ', e = .returned v ∧ R x σ' ∧ Holds w' (fun b => dom σ' b ∨ G b) σ' ∧ VR w' (fun b => dom σ' b ∨ G b) x v ∧ Step w w' (dom σ) (dom σ')

theorem LCalls.mono {P : Program} {f : FuncId} {args : List LV} {σ : Heap} {R R' : LV → Heap → Prop} (h : LCalls P f args σ R) (hr : ∀ x σ', R x σ' → R' x σ') : LCalls P f args σ R' :=
  ⟨h.1, fun G w vs hG hh hl hv => (h.2 G w vs hG hh hl hv).mono fun _ _ ⟨v, x, σ', he, hR, rest⟩ => ⟨v, x, σ', he, hr x σ' hR, rest⟩⟩

theorem VR.oneCell {w : World} {F : Nat → Prop} {x : LV} {v : Value} (h : VR w F x v) (ho : x.one = true) : v.oneCell' = true := by
  cases h <;> first | rfl | (simp [LV.one] at ho; done) | exact ho

/-- The machine's cells of a value are told by its logical cells. -/
theorem VR.cells {w : World} {F : Nat → Prop} {x : LV} {v : Value} (h : VR w F x v) (ho : ∀ (j : Nat) (c : LV), x.cells[j]? = some c → c.one = true) :
    x.cells.length = v.cells.size ∧ ∀ (i : Nat) (c : LV), x.cells[i]? = some c → ∃ u, v.cells[i]? = some u ∧ VR w F c u := by
  by_cases hx : ∃ cs, x = .agg cs
  · obtain ⟨cs, rfl⟩ := hx
    cases h with
    | agg hl h =>
      refine ⟨hl, fun i c hc => ?_⟩
      simp only [LV.cells] at hc
      have hi : i < cs.length := (List.getElem?_eq_some_iff.1 hc).1
      have hi2 := hi
      rw [hl] at hi2
      simp only [Value.cells]
      rw [Array.getElem?_eq_getElem hi2]
      exact ⟨_, rfl, h i c _ hc (Array.getElem?_eq_getElem hi2)⟩
  · have hc : x.cells = [x] := by cases x <;> first | rfl | exact absurd ⟨_, rfl⟩ hx
    have h1 := h.oneCell (ho 0 x (by rw [hc]; rfl))
    have hv : v.cells = #[v] := by cases v <;> first | rfl | (simp [Value.oneCell'] at h1; done)
    rw [hc, hv]
    refine ⟨rfl, fun i c hc => ?_⟩
    cases i with
    | zero => simp at hc; subst hc; exact ⟨v, rfl, h⟩
    | succ i => simp at hc

end Go.Ls
