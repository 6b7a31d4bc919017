/- A small program logic over the kit's machine, part b: operations that only compute or read. It bears no statement of its own. -/
import Derived.Test.YtjamehpnclkjdaaLa
import Derived.Laws.Entries
import Derived.Laws.Cells
namespace Go.Ls
open Go
set_option linter.unusedVariables false
set_option linter.unusedSimpArgs false

/-! ### What the types say -/
def aggOf (P : Program) (t : TypeId) : Option (Option Nat) :=
  match P.underlying t with
  | some (.struct _) | some (.array _ _) => (P.info? t).map fun i => some i.size
  | some _ => some none
  | none => none
def fieldOf (P : Program) (s : TypeId) (f : Nat) : Option Nat :=
  match P.underlying s with
  | some (.struct fs) => (fs[f]?).bind fun g => (P.info? g.type).bind fun i => if i.size = 0 then none else some g.offset
  | _ => none
def elOf (P : Program) (t : TypeId) : Option Nat :=
  match P.underlying t with
  | some (.slice e) => (P.info? e).map (·.size)
  | _ => none
def arrOf (P : Program) (t : TypeId) : Option (Nat × Nat) :=
  match P.underlying t with
  | some (.array n e) => (P.info? e).map fun i => (n, i.size)
  | _ => none
def placesOf (P : Program) (t : TypeId) : Option (List (Nat × Nat)) :=
  match P.underlying t with
  | some (.struct fs) => fs.toList.mapM fun f => (P.info? f.type).map fun i => (f.offset, i.size)
  | some (.array n e) => (P.info? e).map fun i => (List.range n).map fun j => (j * i.size, i.size)
  | _ => none
def zeroOf (P : Program) (t : TypeId) : Option (List Value) := (P.info? t).bind fun i => i.zero.map (·.cells.toList)

def look : Heap → Blk → Option (List LV)
  | [], _ => none
  | (B', xs) :: σ, B => if B = B' then some xs else look σ B

theorem look_mem : ∀ {σ : Heap} {B : Blk} {xs : List LV}, look σ B = some xs → (B, xs) ∈ σ
  | [], _, _, h => by simp [look] at h
  | (B', ys) :: σ, B, xs, h => by
    unfold look at h
    split at h
    · rename_i e
      subst e
      cases h
      exact List.mem_cons_self
    · exact List.mem_cons_of_mem _ (look_mem h)

/-- Of the fields of a struct, all of them whole numbers (true) or truth values (false), one cell each. -/
def eqFs (P : Program) : Nat → List Field → Option (List Bool)
  | _, [] => some []
  | j, f :: fs => if f.name = "_" ∨ f.offset ≠ j then none else match P.underlying f.type with
    | some (.int _) => (eqFs P (j + 1) fs).map (true :: ·)
    | some .bool => (eqFs P (j + 1) fs).map (false :: ·)
    | _ => none
def eqTy (P : Program) (t : TypeId) : Option (List Bool) := match P.underlying t with
  | some (.struct fs) => if P.stoodInHeld t || P.eqGuardType P.depth t then none else eqFs P 0 fs.toList
  | _ => none
def eqL : List Bool → List LV → List LV → Option Bool
  | [], [], [] => some true
  | true :: ks, .val (.int q a) :: xs, .val (.int q' b) :: ys => if q = q' then (eqL ks xs ys).map (decide (a = b) && ·) else none
  | false :: ks, .val (.bool a) :: xs, .val (.bool b) :: ys => (eqL ks xs ys).map ((a == b) && ·)
  | _, _, _ => none

/-! ### Conditions -/
def binK (P : Program) (op : BinOp) (t : TypeId) (k : LV → Prop) : LV → LV → Prop
  | .val (.int q a), .val (.int q' b) => q = q' ∧ match op with
    | .add => k (.val (.int q (q.wrap (a + b))))
    | .sub => k (.val (.int q (q.wrap (a - b))))
    | .mul => k (.val (.int q (q.wrap (a * b))))
    | .quo => b ≠ 0 ∧ k (.val (.int q (q.wrap (a.tdiv b))))
    | .rem => b ≠ 0 ∧ k (.val (.int q (a.tmod b)))
    | .lss => k (.val (.bool (decide (a < b))))
    | .leq => k (.val (.bool (decide (a ≤ b))))
    | .gtr => k (.val (.bool (decide (b < a))))
    | .geq => k (.val (.bool (decide (b ≤ a))))
    | .eql => k (.val (.bool (decide (a = b))))
    | .neq => k (.val (.bool (!decide (a = b))))
    | _ => False
  | .val (.bool a), .val (.bool b) => P.underlying t = some .bool ∧ match op with
    | .eql => k (.val (.bool (a == b)))
    | .neq => k (.val (.bool (!(a == b))))
    | _ => False
  | .agg cs, .agg ds => match eqTy P t with
    | some ks => match eqL ks cs ds with
      | some r => match op with
        | .eql => k (.val (.bool r))
        | .neq => k (.val (.bool (!r)))
        | _ => False
      | none => False
    | none => False
  | _, _ => False

def unK (op : UnOp) (k : LV → Prop) : LV → Prop
  | .val (.bool b) => match op with
    | .not => k (.val (.bool !b))
    | _ => False
  | .val (.int q n) => match op with
    | .neg => k (.val (.int q (q.wrap (0 - n))))
    | _ => False
  | _ => False

def idxK (P : Program) (t : TypeId) (n : Int) (k : LV → Prop) : LV → Prop
  | .ro sz xs => elOf P t = some sz ∧ 0 ≤ n ∧ n < xs.length ∧ k (.adr (xs.getD n.toNat .any).cells)
  | .msl B off len => elOf P t = some B.sz ∧ 0 ≤ n ∧ n < len ∧ k (.ref B (off + n.toNat) 0)
  | .ref B i j => match arrOf P t with
    | some (len, e) => 0 ≤ n ∧ n < len ∧ k (.ref B i (j + n.toNat * e))
    | none => False
  | .adr cs => match arrOf P t with
    | some (len, e) => 0 ≤ n ∧ n < len ∧ k (.adr (cs.drop (n.toNat * e)))
    | none => False
  | _ => False

def ldK (P : Program) (M : Nat → Prop) (σ : Heap) (t : TypeId) (k : LV → Prop) : LV → Prop
  | .adr cs => match aggOf P t with
    | some (some m) => m ≤ cs.length ∧ k (.agg (cs.take m))
    | some none => 0 < cs.length ∧ k (cs.getD 0 .any)
    | none => False
  | .ref B i j => ¬ M B.b ∧ match look σ B with
    | some xs => i < xs.length ∧ match aggOf P t with
      | some (some m) => j + m ≤ (xs.getD i .any).cells.length ∧ k (.agg (((xs.getD i .any).cells.drop j).take m))
      | some none => j < (xs.getD i .any).cells.length ∧ k ((xs.getD i .any).cells.getD j .any)
      | none => False
    | none => False
  | _ => False

def lenK (P : Program) (t : TypeId) (k : LV → Prop) : LV → Prop
  | .ro _ xs => (elOf P t).isSome = true ∧ k (.val (.int .i64 xs.length))
  | .msl _ _ n => (elOf P t).isSome = true ∧ k (.val (.int .i64 n))
  | .val (.slice _ n _) => (elOf P t).isSome = true ∧ k (.val (.int .i64 n))
  | _ => False

def mxK (mx : Bool) (k : LV → Prop) : List LV → Prop
  | [.val (.int q a), .val (.int _ b)] => k (.val (.int q (if mx then max a b else min a b)))
  | [.val (.int q a), .val (.int _ b), .val (.int _ c)] => k (.val (.int q (if mx then max (max a b) c else min (min a b) c)))
  | [.val (.int q a), .val (.int _ b), .val (.int _ c), .val (.int _ d)] => k (.val (.int q (if mx then max (max (max a b) c) d else min (min (min a b) c) d)))
  | _ => False

def bK (P : Program) (b : Builtin) (ts : Array TypeId) (xs : List LV) (k : LV → Prop) : Prop :=
  match b with
  | .len => match ts[0]?, xs with
    | some t, [x] => lenK P t k x
    | _, _ => False
  | .max => mxK true k xs
  | .min => mxK false k xs
  | _ => False

def boundsK (len : Nat) (lo hi : Option LV) (k : Nat → Nat → Prop) : Prop :=
  match lo, hi with
  | none, none => k 0 len
  | some (.val (.int _ l)), none => 0 ≤ l ∧ l ≤ len ∧ k l.toNat len
  | none, some (.val (.int _ h)) => 0 ≤ h ∧ h ≤ len ∧ k 0 h.toNat
  | some (.val (.int _ l)), some (.val (.int _ h)) => 0 ≤ l ∧ l ≤ h ∧ h ≤ len ∧ k l.toNat h.toNat
  | _, _ => False

def slcK (P : Program) (t : TypeId) (lo hi : Option LV) (k : LV → Prop) : LV → Prop
  | .ro sz xs => elOf P t = some sz ∧ boundsK xs.length lo hi fun l h => k (.ro sz ((xs.take h).drop l))
  | .msl B off len => elOf P t = some B.sz ∧ boundsK len lo hi fun l h => (l < h ∨ l = 0 → k (.msl B (off + l) (h - l))) ∧ (l = h → l ≠ 0 → k (.ro B.sz []))
  | .val (.slice none 0 0) => (elOf P t).isSome = true ∧ boundsK 0 lo hi fun _ _ => k (.val (.slice none 0 0))
  | _ => False

def fillL (place : Nat → Option (Nat × Nat)) (k : List LV → Prop) : List LV → List (Nat × LV) → Prop
  | cs, [] => k cs
  | cs, (i, x) :: rest => match place i with
    | none => False
    | some (off, size) => x.cells.length = size ∧ off + size ≤ cs.length ∧ x.cells.all LV.one = true ∧ fillL place k (cs.take off ++ x.cells ++ cs.drop (off + size)) rest

/-- What a computing or reading operation asks, and what it leaves. -/
def pv (P : Program) (M : Nat → Prop) (σ : Heap) (ρ : Operand → LV) (k : LV → Prop) : Op → Prop
  | .move x => k (ρ x)
  | .assign x => k (ρ x)
  | .pick c a b => match ρ c with
    | .val (.bool t) => (t = true → k (ρ a)) ∧ (t = false → k (ρ b))
    | _ => False
  | .binOp op t x y _ => binK P op t k (ρ x) (ρ y)
  | .unOp op _ x => unK op k (ρ x)
  | .convert src dst x => match ρ x with
    | .val (.int _ n) => (P.underlying src).isSome = true ∧ match P.underlying dst with
      | some (.int q) => k (.val (.int q (q.wrap n)))
      | _ => False
    | _ => False
  | .extract x i => match ρ x with
    | .tup vs => i < vs.length ∧ k (vs.getD i .any)
    | _ => False
  | .nilCheck x => match ρ x with
    | .adr cs => k (.adr cs)
    | .ref B i j => k (.ref B i j)
    | _ => False
  | .fieldAddr s x f => match fieldOf P s f with
    | some o => match ρ x with
      | .adr cs => k (.adr (cs.drop o))
      | .ref B i j => k (.ref B i (j + o))
      | _ => False
    | none => False
  | .indexAddr t x i => match ρ i with
    | .val (.int _ n) => idxK P t n k (ρ x)
    | _ => False
  | .load t x => ldK P M σ t k (ρ x)
  | .makeFunc (.func f) first cap => first = #[] ∧ k (.fn f (cap.toList.map ρ))
  | .slice t x lo hi none => slcK P t (lo.map ρ) (hi.map ρ) k (ρ x)
  | .build t parts => match placesOf P t, zeroOf P t with
    | some ps, some zs => (zs.map LV.val).all LV.one = true ∧ fillL (fun i => ps[i]?) (fun cs => k (.agg cs)) (zs.map .val) (parts.toList.map fun p => (p.1, ρ p.2))
    | _, _ => False
  | .call { callee := .builtin b, args, argTypes } => bK P b argTypes (args.toList.map ρ) k
  | _ => False

end Go.Ls
