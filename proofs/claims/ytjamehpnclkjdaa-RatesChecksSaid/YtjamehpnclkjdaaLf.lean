/- A small program logic over the kit's machine, part f: operations that make or write memory, and calls. It bears no statement of its own. -/
import Derived.Test.YtjamehpnclkjdaaLe
namespace Go.Ls
open Go
set_option linter.unusedVariables false
set_option linter.unusedSimpArgs false

def zeroLV : Value → LV
  | .agg cs => .agg (cs.toList.map .val)
  | v => .val v
def zeroEl (P : Program) (t : TypeId) : Option LV := (P.info? t).bind fun i => i.zero.bind fun z => if z.cells.size = i.size ∧ z.cells.toList.all Value.oneCell' = true then some (zeroLV z) else none
/-- Of a slice type: an element's zero, its cells, its bytes. -/
def slTy (P : Program) (t : TypeId) : Option (LV × Nat × Nat) :=
  match P.underlying t with
  | some (.slice e) => (P.info? e).bind fun i => i.zero.bind fun z => if z.cells.size = i.size ∧ 0 < i.size ∧ z.cells.toList.all Value.oneCell' = true then some (zeroLV z, i.size, i.bytes) else none
  | _ => none
def sizeIs (P : Program) (t : TypeId) : Option Nat := (P.info? t).map (·.size)

def setCells : LV → Nat → LV → LV
  | .agg old, j, v => if j = 0 ∧ v.cells.length = old.length then .agg v.cells else .agg (old.take j ++ v.cells ++ old.drop (j + v.cells.length))
  | _, _, v => v

/-- A slice of one's own that holds xs: nil, or the whole of an owned block. -/
def Own (sz : Nat) (v : LV) (xs : List LV) (σ τ : Heap) : Prop :=
  (v = .val (.slice none 0 0) ∧ xs = [] ∧ σ.Perm τ) ∨ ∃ B : Blk, B.sz = sz ∧ v = .msl B 0 xs.length ∧ σ.Perm ((B, xs) :: τ)
/-- The same, with the memory in order: the block first. -/
def OwnE (sz : Nat) (v : LV) (xs : List LV) (σ τ : Heap) : Prop :=
  (v = .val (.slice none 0 0) ∧ xs = [] ∧ σ = τ) ∨ ∃ B : Blk, B.sz = sz ∧ v = .msl B 0 xs.length ∧ σ = (B, xs) :: τ
theorem OwnE.own {sz : Nat} {v : LV} {xs : List LV} {σ τ : Heap} (h : OwnE sz v xs σ τ) : Own sz v xs σ τ := by
  rcases h with ⟨h1, h2, rfl⟩ | ⟨B, h1, h2, rfl⟩
  · exact .inl ⟨h1, h2, List.Perm.refl _⟩
  · exact .inr ⟨B, h1, h2, List.Perm.refl _⟩
/-- What an append takes its elements from. -/
def Src (σ : Heap) (sz : Nat) (x : LV) (ys : List LV) : Prop :=
  x = .ro sz ys ∨ (x = .val (.slice none 0 0) ∧ ys = []) ∨ ∃ (B : Blk) (off m : Nat) (zs : List LV), x = .msl B off m ∧ B.sz = sz ∧ look σ B = some zs ∧ off + m ≤ zs.length ∧ ys = (zs.drop off).take m

def appK (P : Program) (M : Nat → Prop) (σ : Heap) (t : TypeId) (s x : LV) (k : LV → Heap → Prop) : Prop :=
  match slTy P t with
  | some (_, sz, by_) => ∃ σ0 xs ys τ τ', HV σ σ0 ∧ Own sz s xs σ0 τ ∧ Src σ0 sz x ys ∧ Sub τ' τ ∧ (∀ B n, s = .msl B 0 n → M B.b ∨ B.room = n * B.sz) ∧ xs.length + ys.length ≤ maxLen ∧ (xs.length + ys.length) * by_ ≤ 140737488355328 ∧
      ∀ v' σ', OwnE sz v' (xs ++ ys) σ' τ' → (σ'.map (·.1.b)).Nodup → k v' σ'
  | none => False

def callK (P : Program) (M : Nat → Prop) (f : FuncId) (xs : List LV) (σ : Heap) (k : LV → Heap → Prop) : Prop :=
  ∃ σ1 τ, σ.Perm (σ1 ++ τ) ∧ (∀ b, dom σ1 b → M b) ∧ LCalls P f xs σ1 fun v σ1' => k v (σ1' ++ τ)

/-- For every new block. -/
def AllB (σ : Heap) (f : Nat → Prop) : Prop := ∀ b, ¬ dom σ b → f b

/-- What an operation that makes or writes memory, or calls, asks, and what it leaves; it may write the blocks of M alone. -/
def av (P : Program) (M : Nat → Prop) (σ : Heap) (ρ : Operand → LV) (k : LV → Heap → Prop) : Op → Prop
  | .alloc t => match zeroEl P t with
    | some z => AllB σ fun b => k (.ref ⟨b, z.cells.length, z.cells.length⟩ 0 0) ((⟨b, z.cells.length, z.cells.length⟩, [z]) :: σ)
    | none => False
  | .box t x => (ρ x).cells.all LV.one = true ∧ AllB σ fun b => k (.ref ⟨b, (ρ x).cells.length, (ρ x).cells.length⟩ 0 0) ((⟨b, (ρ x).cells.length, (ρ x).cells.length⟩, [ρ x]) :: σ)
  | .buildSlice t len parts => match slTy P t with
    | some (z, sz, _) => len * sz ≤ 16777216 ∧ fillE sz (fun es => AllB σ fun b => k (.msl ⟨b, sz, len * sz⟩ 0 len) ((⟨b, sz, len * sz⟩, es) :: σ)) (List.replicate len z) (parts.toList.map fun p => (p.1, ρ p.2))
    | none => False
  | .makeSlice t l c => match slTy P t with
    | some (z, sz, by_) => match ρ l with
      | .val (.int _ l) => match ρ c with
        | .val (.int _ c) => 0 ≤ l ∧ l ≤ c ∧ c ≤ maxLen ∧ (by_ : Int) * c ≤ 281474976710656 ∧ AllB σ fun b => k (.msl ⟨b, sz, c.toNat * sz⟩ 0 l.toNat) ((⟨b, sz, c.toNat * sz⟩, List.replicate c.toNat z) :: σ)
        | _ => False
      | _ => False
    | none => False
  | .store t a x => match ρ a with
    | .ref B i j => M B.b ∧ match look σ B with
      | some xs => i < xs.length ∧ j + (ρ x).cells.length ≤ (xs.getD i .any).cells.length ∧ 0 < (ρ x).cells.length ∧ (ρ x).cells.all LV.one = true ∧ sizeIs P t = some (ρ x).cells.length ∧
          k (.val undef) (hput σ B (xs.set i (setCells (xs.getD i .any) j (ρ x))))
      | none => False
    | _ => False
  | .call { callee := .builtin .append, args, argTypes } => match args.toList with
    | [s, x] => match argTypes.toList with
      | [t, t'] => t = t' ∧ appK P M σ t (ρ s) (ρ x) k
      | _ => False
    | _ => False
  | .call { callee := .value f, args, .. } => match ρ f with
    | .fn g cap => callK P M g (args.toList.map ρ ++ cap) σ k
    | _ => False
  | _ => False

section
variable {P : Program} {w w' : World} {G M : Nat → Prop} {σ : Heap}

theorem zeroLV_cells (z : Value) : (zeroLV z).cells = z.cells.toList.map .val := by cases z <;> simp [zeroLV, LV.cells, Value.cells]

theorem zeroLV_cell {z : Value} {F : Nat → Prop} (h : z.cells.toList.all Value.oneCell' = true) {j : Nat} {c : LV} (hj : (zeroLV z).cells[j]? = some c) : c.one = true ∧ ∃ u, z.cells[j]? = some u ∧ VR w F c u := by
  rw [zeroLV_cells, List.getElem?_map] at hj
  cases hu : z.cells.toList[j]? with
  | none => rw [hu] at hj; cases hj
  | some u =>
    rw [hu] at hj
    cases hj
    exact ⟨List.all_eq_true.1 h u (List.mem_of_getElem? hu), u, by simpa using hu, .val u⟩

/-- A new block with its elements. -/
theorem alloc_next {B : Blk} {es : List LV} {cs : Array Value} {e : TypeId} (hh : Holds w (Fo σ G) σ) (hG : ∀ b, G b → b < w.heap.size) (hw : w'.heap = w.heap.push (.cells cs e)) (ho : w'.os = w.os) (ht : w'.tape = w.tape) (hout : w'.output = w.output)
    (hB : B.b = w.heap.size) (hr : B.room = cs.size) (hc : CellsAt w (Fo σ G) B.sz es cs) :
    Holds w' (Fo ((B, es) :: σ) G) ((B, es) :: σ) ∧ Step w w' (dom σ) (dom ((B, es) :: σ)) ∧ Still M w w' ∧ ¬ dom σ B.b := by
  have hst : ∀ {N : Nat → Prop}, Still N w w' := fun {N} => ⟨by rw [hw]; simp, fun b hb _ => by rw [hw, Array.getElem?_push, if_neg (by omega)]⟩
  have hF : ∀ b, b < w.heap.size → Fo ((B, es) :: σ) G b → Fo σ G b := fun b hb hd => by
    rcases hd with hd | hd
    · rw [dom_cons] at hd
      rcases hd with hd | hd
      · simp only at hd; omega
      · exact .inl hd
    · exact .inr hd
  have h1 : Holds1 w' (Fo ((B, es) :: σ) G) (B, es) := (hc.stay hst hF).holds1 (e := e) (by rw [hw, hB]; simp) hr.symm
  refine ⟨(Holds.cons hh hG hst hB h1).1, ⟨ho, ht, hout, hst, fun b hb hl => ?_⟩, hst, fun hd => ?_⟩
  · rw [dom_cons] at hb
    rcases hb with hb | hb
    · simp only at hb; omega
    · exact hb
  · have := hh.lt hd; omega
end

theorem hput_holds {w w' : World} {G : Nat → Prop} {σ : Heap} {B : Blk} {xs ys : List LV} (hh : Holds w (Fo σ G) σ) (hl : look σ B = some xs) (hst : Still (fun b => b = B.b) w w') (h1 : Holds1 w' (Fo σ G) (B, ys)) : Holds w' (Fo (hput σ B ys) G) (hput σ B ys) := by
  have hF : ∀ b, Fo (hput σ B ys) G b → Fo σ G b := fun b hb => hb.imp dom_hput.1 id
  have hst' : Still (Fo σ G) w w' := hst.mono (fun b _ hb => .inl (by subst hb; exact ⟨_, look_mem hl, rfl⟩))
  refine ⟨fun p hp => ?_, by rw [map_hput]; exact hh.2⟩
  rcases mem_hput hp hh.2 with rfl | ⟨hp, hne⟩ | ⟨_, hn⟩
  · exact h1.stay (Still.refl w') (fun b _ => hF b) rfl
  · exact (hh.1 p hp).stay hst' (fun b _ => hF b) (hst.2 _ (hh.1 p hp).lt hne)
  · rw [hl] at hn; cases hn

end Go.Ls
