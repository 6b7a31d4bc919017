/- A small program logic over the kit's machine, part m: rules for walking a text. It bears no statement of its own. -/
import Derived.Test.YtjamehpnclkjdaaLl
namespace Go.Ls
open Go
set_option linter.unusedVariables false
set_option linter.unusedSimpArgs false

/-! ### Forms: a continuation is hidden behind a token, so that no rewriting goes into it -/
inductive Tk {α : Type} (a : α) : Type where
  | mk : Tk a
def Box {p : Prop} (t : Tk p) : Prop := p
theorem Box.of {p : Prop} (h : p) : Box (Tk.mk : Tk p) := h
def app1 {k : LV → Prop} (t : Tk k) (x : LV) : Prop := k x
def app2 {k : LV → Heap → Prop} (t : Tk k) (x : LV) (σ : Heap) : Prop := k x σ
def pickF {k : LV → Prop} (t : Tk k) (c a b : LV) : Prop := match c with
  | .val (.bool t) => (t = true → k a) ∧ (t = false → k b)
  | _ => False
def binF {k : LV → Prop} (tk : Tk k) (P : Program) (op : BinOp) (t : TypeId) (x y : LV) : Prop := binK P op t k x y
def unF {k : LV → Prop} (tk : Tk k) (op : UnOp) (x : LV) : Prop := unK op k x
def cvF {k : LV → Prop} (tk : Tk k) (us : Bool) (ut : Option TypeDesc) (x : LV) : Prop := match x with
  | .val (.int _ n) => us = true ∧ match ut with
    | some (.int q) => k (.val (.int q (q.wrap n)))
    | _ => False
  | _ => False
def exF {k : LV → Prop} (tk : Tk k) (i : Nat) (x : LV) : Prop := match x with
  | .tup vs => i < vs.length ∧ k (vs.getD i .any)
  | _ => False
def ncF {k : LV → Prop} (tk : Tk k) (x : LV) : Prop := match x with
  | .adr cs => k (.adr cs)
  | .ref B i j => k (.ref B i j)
  | _ => False
def faF {k : LV → Prop} (tk : Tk k) (o : Option Nat) (x : LV) : Prop := match o with
  | some o => match x with
    | .adr cs => k (.adr (cs.drop o))
    | .ref B i j => k (.ref B i (j + o))
    | _ => False
  | none => False
def ix1 {k : LV → Prop} (tk : Tk k) (x : LV) : Prop := k (.adr x.cells)
def ixF {k : LV → Prop} (tk : Tk k) (P : Program) (t : TypeId) (i x : LV) : Prop := match i with
  | .val (.int _ n) => idxK P t n k x
  | _ => False
def ixG {k : LV → Prop} (tk : Tk k) (a : Int) (B : Blk) (i j : Nat) (o : Option (Nat × Nat)) : Prop := match o with
  | some (len, s) => 0 ≤ a ∧ a < len ∧ k (.ref B i (j + a.toNat * s))
  | none => False
def ixH {k : LV → Prop} (tk : Tk k) (a : Int) (cs : List LV) (o : Option (Nat × Nat)) : Prop := match o with
  | some (len, s) => 0 ≤ a ∧ a < len ∧ k (.adr (cs.drop (a.toNat * s)))
  | none => False
def ldF {k : LV → Prop} (tk : Tk k) (P : Program) (M : Nat → Prop) (t : TypeId) (σ : Heap) (x : LV) : Prop := ldK P M σ t k x
def ldC {k : LV → Prop} (tk : Tk k) (ag : Option (Option Nat)) (cs : List LV) : Prop := match ag with
  | some (some m) => m ≤ cs.length ∧ k (.agg (cs.take m))
  | some none => 0 < cs.length ∧ k (cs.getD 0 .any)
  | none => False
def ldD {k : LV → Prop} (tk : Tk k) (j : Nat) (ag : Option (Option Nat)) (cs : List LV) : Prop := match ag with
  | some (some m) => j + m ≤ cs.length ∧ k (.agg ((cs.drop j).take m))
  | some none => j < cs.length ∧ k (cs.getD j .any)
  | none => False
def ldR {k : LV → Prop} (tk : Tk k) (P : Program) (t : TypeId) (i j : Nat) (o : Option (List LV)) : Prop := match o with
  | some xs => i < xs.length ∧ ldD tk j (aggOf P t) (xs.getD i .any).cells
  | none => False
def bdF {k : LV → Prop} (tk : Tk k) (ps : Option (List (Nat × Nat))) (zs : Option (List Value)) (parts : List (Nat × LV)) : Prop := match ps, zs with
  | some ps, some zs => (zs.map LV.val).all LV.one = true ∧ fillL (fun i => ps[i]?) (fun cs => k (.agg cs)) (zs.map .val) parts
  | _, _ => False
def flF {k : List LV → Prop} (tk : Tk k) (ps : List (Nat × Nat)) (cs : List LV) (parts : List (Nat × LV)) : Prop := fillL (fun i => ps[i]?) k cs parts
def flG {k : List LV → Prop} (tk : Tk k) (ps : List (Nat × Nat)) (o : Option (Nat × Nat)) (cs : List LV) (x : LV) (parts : List (Nat × LV)) : Prop := match o with
  | none => False
  | some (off, size) => x.cells.length = size ∧ off + size ≤ cs.length ∧ x.cells.all LV.one = true ∧ flF tk ps (cs.take off ++ x.cells ++ cs.drop (off + size)) parts
def feF {k : List LV → Prop} (tk : Tk k) (sz : Nat) (es : List LV) (parts : List (Nat × LV)) : Prop := fillE sz k es parts
def alM {k : LV → Heap → Prop} (tk : Tk k) (σ : Heap) (m : Nat) (z : LV) : Prop := AllB σ fun b => k (.ref ⟨b, m, m⟩ 0 0) ((⟨b, m, m⟩, [z]) :: σ)
def alF {k : LV → Heap → Prop} (tk : Tk k) (σ : Heap) (z : Option LV) : Prop := match z with
  | some z => alM tk σ z.cells.length z
  | none => False
def bxF {k : LV → Heap → Prop} (tk : Tk k) (σ : Heap) (x : LV) : Prop := x.cells.all LV.one = true ∧ alM tk σ x.cells.length x
def slM {k : LV → Heap → Prop} (tk : Tk k) (σ : Heap) (sz len m : Nat) (es : List LV) : Prop := AllB σ fun b => k (.msl ⟨b, sz, m⟩ 0 len) ((⟨b, sz, m⟩, es) :: σ)
def bsF {k : LV → Heap → Prop} (tk : Tk k) (σ : Heap) (len : Nat) (ty : Option (LV × Nat × Nat)) (parts : List (Nat × LV)) : Prop := match ty with
  | some (z, sz, _) => len * sz ≤ 16777216 ∧ feF (Tk.mk : Tk fun es => slM tk σ sz len (len * sz) es) sz (List.replicate len z) parts
  | none => False
def stM {k : LV → Heap → Prop} (tk : Tk k) (σ : Heap) (B : Blk) (i j : Nat) (s : Option Nat) (o : Option (List LV)) (x : LV) : Prop := match o with
  | some xs => i < xs.length ∧ j + x.cells.length ≤ (xs.getD i .any).cells.length ∧ 0 < x.cells.length ∧ x.cells.all LV.one = true ∧ s = some x.cells.length ∧ app2 tk (.val undef) (hput σ B (xs.set i (setCells (xs.getD i .any) j x)))
  | none => False
def stF {k : LV → Heap → Prop} (tk : Tk k) (P : Program) (M : Nat → Prop) (σ : Heap) (t : TypeId) (a x : LV) : Prop := match a with
  | .ref B i j => M B.b ∧ stM tk σ B i j (sizeIs P t) (look σ B) x
  | _ => False
def msF {k : LV → Heap → Prop} (tk : Tk k) (σ : Heap) (ty : Option (LV × Nat × Nat)) (l c : LV) : Prop := match ty with
  | some (z, sz, by_) => match l with
    | .val (.int _ l) => match c with
      | .val (.int _ c) => 0 ≤ l ∧ l ≤ c ∧ c ≤ maxLen ∧ (by_ : Int) * c ≤ 281474976710656 ∧ AllB σ fun b => k (.msl ⟨b, sz, c.toNat * sz⟩ 0 l.toNat) ((⟨b, sz, c.toNat * sz⟩, List.replicate c.toNat z) :: σ)
      | _ => False
    | _ => False
  | none => False
def clH {k : LV → Heap → Prop} (tk : Tk k) (P : Program) (M : Nat → Prop) (σ : Heap) (g : FuncId) (xs : List LV) : Prop := callK P M g xs σ k
def clF {k : LV → Heap → Prop} (tk : Tk k) (P : Program) (M : Nat → Prop) (σ : Heap) (f : LV) (xs : List LV) : Prop := match f with
  | .fn g cap => clH tk P M σ g (xs ++ cap)
  | _ => False
def apF {k : LV → Heap → Prop} (tk : Tk k) (P : Program) (M : Nat → Prop) (σ : Heap) (t : TypeId) (s x : LV) : Prop := appK P M σ t s x k
def lnF {k : LV → Prop} (tk : Tk k) (el : Option Nat) (x : LV) : Prop := match x with
  | .ro _ xs => el.isSome = true ∧ k (.val (.int .i64 xs.length))
  | .msl _ _ n => el.isSome = true ∧ k (.val (.int .i64 n))
  | .val (.slice _ n _) => el.isSome = true ∧ k (.val (.int .i64 n))
  | _ => False
def mxF {k : LV → Prop} (tk : Tk k) (mx : Bool) (xs : List LV) : Prop := mxK mx k xs
def scF {k : LV → Prop} (tk : Tk k) (P : Program) (t : TypeId) (lo hi : Option LV) (x : LV) : Prop := slcK P t lo hi k x
def gdF {k0 : Prop} {k1 : Bool → Prop} (t0 : Tk k0) (tk : Tk k1) (want : Bool) (x : LV) : Prop := match x with
  | .val (.bool b) => (b = want → k1 want) ∧ (b = !want → k1 (!want))
  | .val (.tuple _) => k0
  | _ => False
def gput (gm : Nat → Option Tmp) (i : Nat) (x : Option Tmp) : Nat → Option Tmp := fun j => if j = i then x else gm j
def guF {k : Tmp → Prop} (tk : Tk k) (o : Option Tmp) : Prop := match o with
  | some t => k t
  | none => False
def cdF {k1 k2 : Prop} (t1 : Tk k1) (t2 : Tk k2) (x : LV) : Prop := match x with
  | .val (.bool b) => (b = true → k1) ∧ (b = false → k2)
  | _ => False

section
variable {P : Program} {n : Nat} {Mr Mw M : Nat → Prop} {ops : Array Oper} {fr : Fr} {σ : Heap} {K : Fr → Heap → Prop} {d : Option Tmp} {ty : TypeId} {p : String} {af : Array Edge}

/-! ### Steps -/
theorem ev_tmp {t : Tmp} : ev fr (.tmp t) = fr t := _root_.id rfl
theorem ev_const {v : Value} : ev fr (.const v) = .val v := _root_.id rfl
theorem ev_func {f : FuncId} : ev fr (.func f) = .fn f [] := _root_.id rfl
theorem put_some {t s : Tmp} {x : LV} : put fr (some t) x s = if s = t then x else fr s := _root_.id rfl
theorem put_none {x : LV} : put fr none x = fr := _root_.id rfl
theorem wops_nil {i : Nat} {gm : Nat → Option Tmp} : wopsI P i gm [] fr σ K = K fr σ := _root_.id rfl
theorem wops_none {i : Nat} {gm : Nat → Option Tmp} {op : Op} {rest : List Oper} : wopsI P i gm (⟨d, op, ty, p, af, none⟩ :: rest) fr σ K =
    wrun P (fun _ => False) (fun _ => True) ⟨d, op, ty, p, af, none⟩ fr σ fun fr σ => wopsI P (i + 1) (gput gm i d) rest fr σ K := _root_.id rfl
theorem wops_some {i : Nat} {gm : Nat → Option Tmp} {op : Op} {rest : List Oper} {g : Nat} {want : Bool} : wopsI P i gm (⟨d, op, ty, p, af, some (g, want)⟩ :: rest) fr σ K =
    guF (Tk.mk : Tk fun t => gdF (Tk.mk : Tk (wopsI P (i + 1) (gput gm i d) rest (put fr d (.val undef)) σ K)) (Tk.mk : Tk fun b => if b = want then wrun P (fun _ => False) (fun _ => True) ⟨d, op, ty, p, af, some (g, want)⟩ (put fr (some t) (.val (.bool want))) σ fun fr σ => wopsI P (i + 1) (gput gm i d) rest fr σ K
      else wopsI P (i + 1) (gput gm i d) rest (put (put fr (some t) (.val (.bool !want))) d (.val undef)) σ K) want (fr t)) (gm g) := by
  conv => lhs; unfold wopsI
  unfold guF gdF
  simp only
  cases gm g with
  | none => rfl
  | some t =>
    simp only
    cases fr t with
    | val v => cases v <;> simp <;> rfl
    | _ => rfl
theorem gput_eq {gm : Nat → Option Tmp} {i j : Nat} {x : Option Tmp} : gput gm i x j = if j = i then x else gm j := _root_.id rfl
theorem gu_some {k : Tmp → Prop} {tk : Tk k} {t : Tmp} : guF tk (some t) = k t := _root_.id rfl
section
variable {k0 : Prop} {k1 : Bool → Prop} {t0 : Tk k0} {tk : Tk k1}
theorem gdK_tt : gdF t0 tk true (.val (.bool true)) = k1 true := by simp [gdF]
theorem gdK_tf : gdF t0 tk true (.val (.bool false)) = k1 false := by simp [gdF]
theorem gdK_ft : gdF t0 tk false (.val (.bool true)) = k1 true := by simp [gdF]
theorem gdK_ff : gdF t0 tk false (.val (.bool false)) = k1 false := by simp [gdF]
theorem gdK_u {w : Bool} : gdF t0 tk w (.val undef) = k0 := _root_.id rfl
theorem gdK_b {w b : Bool} : gdF t0 tk w (.val (.bool b)) = ((b = true → k1 true) ∧ (b = false → k1 false)) := by cases w <;> cases b <;> simp [gdF]
end
theorem wplan_nil : wplan P M ops [] fr σ K = K fr σ := _root_.id rfl
/-- One step of a plan. -/
theorem plan_none {i kd : Nat} {rest : List (Nat × Nat)} {op : Op} (ho : ops[i]? = some ⟨d, op, ty, p, af, none⟩) (hM : kd = 1 → ∀ b, M b → dom σ b)
    (h : wrun P M (if 3 ≤ kd then fun _ => True else M) ⟨d, op, ty, p, af, none⟩ fr σ fun fr σ => Box (Tk.mk : Tk (wplan P M ops rest fr σ K))) : Box (Tk.mk : Tk (wplan P M ops ((i, kd) :: rest) fr σ K)) := by
  show (match ops[i]? with
    | none => False
    | some o => (kd = 1 → ∀ b, M b → dom σ b) ∧ wop P M (if 3 ≤ kd then fun _ => True else M) ops o fr σ fun fr σ => wplan P M ops rest fr σ K)
  rw [ho]
  exact ⟨hM, h⟩
theorem plan_some {i kd g : Nat} {want : Bool} {t : Tmp} {rest : List (Nat × Nat)} {op : Op} (ho : ops[i]? = some ⟨d, op, ty, p, af, some (g, want)⟩) (hg : (ops[g]?).bind (·.dst) = some t) (hM : kd = 1 → ∀ b, M b → dom σ b)
    (h : gdF (Tk.mk : Tk (Box (Tk.mk : Tk (wplan P M ops rest (put fr d (.val undef)) σ K)))) (Tk.mk : Tk fun b => if b = want then wrun P M (if 3 ≤ kd then fun _ => True else M) ⟨d, op, ty, p, af, some (g, want)⟩ (put fr (some t) (.val (.bool want))) σ fun fr σ => Box (Tk.mk : Tk (wplan P M ops rest fr σ K))
      else Box (Tk.mk : Tk (wplan P M ops rest (put (put fr (some t) (.val (.bool !want))) d (.val undef)) σ K))) want (fr t)) : Box (Tk.mk : Tk (wplan P M ops ((i, kd) :: rest) fr σ K)) := by
  show (match ops[i]? with
    | none => False
    | some o => (kd = 1 → ∀ b, M b → dom σ b) ∧ wop P M (if 3 ≤ kd then fun _ => True else M) ops o fr σ fun fr σ => wplan P M ops rest fr σ K)
  rw [ho]
  refine ⟨hM, ?_⟩
  unfold wop
  simp only [hg]
  revert h
  unfold gdF
  cases fr t with
  | val v => cases v <;> simp <;> first | exact fun h => h | exact fun h1 h2 => ⟨h1, h2⟩
  | _ => exact fun h => h
theorem plan_nil (h : K fr σ) : Box (Tk.mk : Tk (wplan P M ops [] fr σ K)) := h
section
variable {gd : Option (Nat × Bool)}
theorem wr_move {x : Operand} : wrun P Mr Mw ⟨d, .move x, ty, p, af, gd⟩ fr σ K = app1 (Tk.mk : Tk fun v => K (put fr d v) σ) (ev fr x) := _root_.id rfl
theorem wr_assign {x : Operand} : wrun P Mr Mw ⟨d, .assign x, ty, p, af, gd⟩ fr σ K = app1 (Tk.mk : Tk fun v => K (put fr d v) σ) (ev fr x) := _root_.id rfl
theorem wr_pick {c x y : Operand} : wrun P Mr Mw ⟨d, .pick c x y, ty, p, af, gd⟩ fr σ K = pickF (Tk.mk : Tk fun v => app1 (Tk.mk : Tk fun v => K (put fr d v) σ) v) (ev fr c) (ev fr x) (ev fr y) := _root_.id rfl
theorem wr_binOp {op : BinOp} {t t' : TypeId} {x y : Operand} : wrun P Mr Mw ⟨d, .binOp op t x y t', ty, p, af, gd⟩ fr σ K = binF (Tk.mk : Tk (app1 (Tk.mk : Tk fun v => K (put fr d v) σ))) P op t (ev fr x) (ev fr y) := _root_.id rfl
theorem wr_unOp {op : UnOp} {t : TypeId} {x : Operand} : wrun P Mr Mw ⟨d, .unOp op t x, ty, p, af, gd⟩ fr σ K = unF (Tk.mk : Tk (app1 (Tk.mk : Tk fun v => K (put fr d v) σ))) op (ev fr x) := _root_.id rfl
theorem wr_convert {s t : TypeId} {x : Operand} : wrun P Mr Mw ⟨d, .convert s t x, ty, p, af, gd⟩ fr σ K = cvF (Tk.mk : Tk (app1 (Tk.mk : Tk fun v => K (put fr d v) σ))) (P.underlying s).isSome (P.underlying t) (ev fr x) := _root_.id rfl
theorem wr_extract {x : Operand} {i : Nat} : wrun P Mr Mw ⟨d, .extract x i, ty, p, af, gd⟩ fr σ K = exF (Tk.mk : Tk (app1 (Tk.mk : Tk fun v => K (put fr d v) σ))) i (ev fr x) := _root_.id rfl
theorem wr_nilCheck {x : Operand} : wrun P Mr Mw ⟨d, .nilCheck x, ty, p, af, gd⟩ fr σ K = ncF (Tk.mk : Tk (app1 (Tk.mk : Tk fun v => K (put fr d v) σ))) (ev fr x) := _root_.id rfl
theorem wr_fieldAddr {s : TypeId} {x : Operand} {f : Nat} : wrun P Mr Mw ⟨d, .fieldAddr s x f, ty, p, af, gd⟩ fr σ K = faF (Tk.mk : Tk (app1 (Tk.mk : Tk fun v => K (put fr d v) σ))) (fieldOf P s f) (ev fr x) := _root_.id rfl
theorem wr_indexAddr {t : TypeId} {x i : Operand} : wrun P Mr Mw ⟨d, .indexAddr t x i, ty, p, af, gd⟩ fr σ K = ixF (Tk.mk : Tk (app1 (Tk.mk : Tk fun v => K (put fr d v) σ))) P t (ev fr i) (ev fr x) := _root_.id rfl
theorem wr_load {t : TypeId} {x : Operand} : wrun P Mr Mw ⟨d, .load t x, ty, p, af, gd⟩ fr σ K = ldF (Tk.mk : Tk (app1 (Tk.mk : Tk fun v => K (put fr d v) σ))) P Mr t σ (ev fr x) := _root_.id rfl
theorem wr_makeFunc {f : FuncId} {a b : Array Operand} : wrun P Mr Mw ⟨d, .makeFunc (.func f) a b, ty, p, af, gd⟩ fr σ K = (a = #[] ∧ app1 (Tk.mk : Tk fun v => K (put fr d v) σ) (.fn f (b.toList.map (ev fr)))) := _root_.id rfl
theorem wr_slice {t : TypeId} {x : Operand} {lo hi : Option Operand} : wrun P Mr Mw ⟨d, .slice t x lo hi none, ty, p, af, gd⟩ fr σ K = scF (Tk.mk : Tk (app1 (Tk.mk : Tk fun v => K (put fr d v) σ))) P t (lo.map (ev fr)) (hi.map (ev fr)) (ev fr x) := _root_.id rfl
theorem wr_build {t : TypeId} {parts : Array (Nat × Operand)} : wrun P Mr Mw ⟨d, .build t parts, ty, p, af, gd⟩ fr σ K = bdF (Tk.mk : Tk (app1 (Tk.mk : Tk fun v => K (put fr d v) σ))) (placesOf P t) (zeroOf P t) (parts.toList.map fun q => (q.1, ev fr q.2)) := _root_.id rfl
theorem wr_len {x : Operand} {t : TypeId} : wrun P Mr Mw ⟨d, .call { callee := .builtin .len, args := #[x], argTypes := #[t] }, ty, p, af, gd⟩ fr σ K = lnF (Tk.mk : Tk (app1 (Tk.mk : Tk fun v => K (put fr d v) σ))) (elOf P t) (ev fr x) := by
  unfold lnF
  cases h : ev fr x with
  | val v => cases v <;> simp [wrun, active, pv, bK, lenK, h, app1]
  | _ => simp [wrun, active, pv, bK, lenK, h, app1]
theorem wr_max {xs : Array Operand} {ts : Array TypeId} : wrun P Mr Mw ⟨d, .call { callee := .builtin .max, args := xs, argTypes := ts }, ty, p, af, gd⟩ fr σ K = mxF (Tk.mk : Tk (app1 (Tk.mk : Tk fun v => K (put fr d v) σ))) true (xs.toList.map (ev fr)) := _root_.id rfl
theorem wr_min {xs : Array Operand} {ts : Array TypeId} : wrun P Mr Mw ⟨d, .call { callee := .builtin .min, args := xs, argTypes := ts }, ty, p, af, gd⟩ fr σ K = mxF (Tk.mk : Tk (app1 (Tk.mk : Tk fun v => K (put fr d v) σ))) false (xs.toList.map (ev fr)) := _root_.id rfl
theorem wr_alloc {t : TypeId} : wrun P Mr Mw ⟨d, .alloc t, ty, p, af, gd⟩ fr σ K = alF (Tk.mk : Tk fun x σ' => K (put fr d x) σ') σ (zeroEl P t) := by
  unfold wrun alF alM
  simp only [active, av, if_true]
  cases zeroEl P t <;> rfl
theorem wr_box {t : TypeId} {x : Operand} : wrun P Mr Mw ⟨d, .box t x, ty, p, af, gd⟩ fr σ K = bxF (Tk.mk : Tk fun x σ' => K (put fr d x) σ') σ (ev fr x) := _root_.id rfl
theorem wr_buildSlice {t : TypeId} {len : Nat} {parts : Array (Nat × Operand)} : wrun P Mr Mw ⟨d, .buildSlice t len parts, ty, p, af, gd⟩ fr σ K = bsF (Tk.mk : Tk fun x σ' => K (put fr d x) σ') σ len (slTy P t) (parts.toList.map fun q => (q.1, ev fr q.2)) := _root_.id rfl
theorem wr_makeSlice {t : TypeId} {l c : Operand} : wrun P Mr Mw ⟨d, .makeSlice t l c, ty, p, af, gd⟩ fr σ K = msF (Tk.mk : Tk fun x σ' => K (put fr d x) σ') σ (slTy P t) (ev fr l) (ev fr c) := _root_.id rfl
theorem wr_store {t : TypeId} {a x : Operand} : wrun P Mr Mw ⟨d, .store t a x, ty, p, af, gd⟩ fr σ K = stF (Tk.mk : Tk fun x σ' => K (put fr d x) σ') P Mw σ t (ev fr a) (ev fr x) := by
  unfold wrun stF stM
  simp only [active, av, if_true]
  cases ev fr a <;> rfl
theorem wr_append {s x : Operand} {t t' : TypeId} : wrun P Mr Mw ⟨d, .call { callee := .builtin .append, args := #[s, x], argTypes := #[t, t'] }, ty, p, af, gd⟩ fr σ K = (t = t' ∧ apF (Tk.mk : Tk fun x σ' => K (put fr d x) σ') P Mw σ t (ev fr s) (ev fr x)) := _root_.id rfl
theorem wr_call {f : Operand} {xs : Array Operand} {ts : Array TypeId} : wrun P Mr Mw ⟨d, .call { callee := .value f, args := xs, argTypes := ts }, ty, p, af, gd⟩ fr σ K = clF (Tk.mk : Tk fun x σ' => K (put fr d x) σ') P Mw σ (ev fr f) (xs.toList.map (ev fr)) := by
  unfold wrun clF clH
  simp only [active, av, if_true]
  cases ev fr f <;> rfl
end

/-! ### Values -/
section
variable {k : LV → Prop} {kh : LV → Heap → Prop} {tk : Tk k} {th : Tk kh} {t : TypeId} {q q' : IntKind} {a b c e : Int}
theorem app1_eq {x : LV} : app1 tk x = k x := _root_.id rfl
theorem app2_eq {x : LV} : app2 th x σ = kh x σ := _root_.id rfl
theorem pick_t {x y : LV} : pickF tk (.val (.bool true)) x y = k x := by simp [pickF]
theorem pick_f {x y : LV} : pickF tk (.val (.bool false)) x y = k y := by simp [pickF]
theorem pick_b {x y : LV} {b : Bool} : pickF tk (.val (.bool b)) x y = ((b = true → k x) ∧ (b = false → k y)) := _root_.id rfl
theorem bin_add : binF tk P .add t (.val (.int q a)) (.val (.int q b)) = k (.val (.int q (q.wrap (a + b)))) := by simp [binF, binK]
theorem bin_sub : binF tk P .sub t (.val (.int q a)) (.val (.int q b)) = k (.val (.int q (q.wrap (a - b)))) := by simp [binF, binK]
theorem bin_mul : binF tk P .mul t (.val (.int q a)) (.val (.int q b)) = k (.val (.int q (q.wrap (a * b)))) := by simp [binF, binK]
theorem bin_quo : binF tk P .quo t (.val (.int q a)) (.val (.int q b)) = (b ≠ 0 ∧ k (.val (.int q (q.wrap (a.tdiv b))))) := by simp [binF, binK]
theorem bin_rem : binF tk P .rem t (.val (.int q a)) (.val (.int q b)) = (b ≠ 0 ∧ k (.val (.int q (a.tmod b)))) := by simp [binF, binK]
theorem bin_lss : binF tk P .lss t (.val (.int q a)) (.val (.int q b)) = k (.val (.bool (decide (a < b)))) := by simp [binF, binK]
theorem bin_leq : binF tk P .leq t (.val (.int q a)) (.val (.int q b)) = k (.val (.bool (decide (a ≤ b)))) := by simp [binF, binK]
theorem bin_gtr : binF tk P .gtr t (.val (.int q a)) (.val (.int q b)) = k (.val (.bool (decide (b < a)))) := by simp [binF, binK]
theorem bin_geq : binF tk P .geq t (.val (.int q a)) (.val (.int q b)) = k (.val (.bool (decide (b ≤ a)))) := by simp [binF, binK]
theorem bin_eql : binF tk P .eql t (.val (.int q a)) (.val (.int q b)) = k (.val (.bool (decide (a = b)))) := by simp [binF, binK]
theorem bin_neq : binF tk P .neq t (.val (.int q a)) (.val (.int q b)) = k (.val (.bool (!decide (a = b)))) := by simp [binF, binK]
theorem bin_eqlb {x y : Bool} : binF tk P .eql t (.val (.bool x)) (.val (.bool y)) = (P.underlying t = some .bool ∧ k (.val (.bool (x == y)))) := by simp [binF, binK]
theorem bin_neqb {x y : Bool} : binF tk P .neq t (.val (.bool x)) (.val (.bool y)) = (P.underlying t = some .bool ∧ k (.val (.bool (!(x == y))))) := by simp [binF, binK]
theorem un_not {x : Bool} : unF tk .not (.val (.bool x)) = k (.val (.bool (!x))) := _root_.id rfl
theorem un_neg : unF tk .neg (.val (.int q a)) = k (.val (.int q (q.wrap (0 - a)))) := _root_.id rfl
theorem cv_int : cvF tk true (some (.int q)) (.val (.int q' a)) = k (.val (.int q (q.wrap a))) := by simp [cvF]
theorem ex_tup {vs : List LV} {i : Nat} : exF tk i (.tup vs) = (i < vs.length ∧ k (vs.getD i .any)) := _root_.id rfl
theorem nc_adr {cs : List LV} : ncF tk (.adr cs) = k (.adr cs) := _root_.id rfl
theorem nc_ref {B : Blk} {i j : Nat} : ncF tk (.ref B i j) = k (.ref B i j) := _root_.id rfl
theorem fa_adr {o : Nat} {cs : List LV} : faF tk (some o) (.adr cs) = k (.adr (cs.drop o)) := _root_.id rfl
theorem fa_ref {o : Nat} {B : Blk} {i j : Nat} : faF tk (some o) (.ref B i j) = k (.ref B i (j + o)) := _root_.id rfl
theorem ix_ro {sz : Nat} {xs : List LV} : ixF tk P t (.val (.int q a)) (.ro sz xs) = (elOf P t = some sz ∧ 0 ≤ a ∧ a < xs.length ∧ ix1 tk (xs.getD a.toNat .any)) := _root_.id rfl
theorem ix1_eq {x : LV} : ix1 tk x = k (.adr x.cells) := _root_.id rfl
theorem ix_msl {B : Blk} {off len : Nat} : ixF tk P t (.val (.int q a)) (.msl B off len) = (elOf P t = some B.sz ∧ 0 ≤ a ∧ a < len ∧ k (.ref B (off + a.toNat) 0)) := _root_.id rfl
theorem ix_ref {B : Blk} {i j : Nat} : ixF tk P t (.val (.int q a)) (.ref B i j) = ixG tk a B i j (arrOf P t) := by
  unfold ixF ixG idxK
  cases arrOf P t with
  | none => rfl
  | some p => rfl
theorem ixG_some {B : Blk} {i j len s : Nat} : ixG tk a B i j (some (len, s)) = (0 ≤ a ∧ a < len ∧ k (.ref B i (j + a.toNat * s))) := _root_.id rfl
theorem ix_adr {cs : List LV} : ixF tk P t (.val (.int q a)) (.adr cs) = ixH tk a cs (arrOf P t) := by
  unfold ixF ixH idxK
  cases arrOf P t with
  | none => rfl
  | some p => rfl
theorem ixH_some {cs : List LV} {len s : Nat} : ixH tk a cs (some (len, s)) = (0 ≤ a ∧ a < len ∧ k (.adr (cs.drop (a.toNat * s)))) := _root_.id rfl
theorem ld_adr {cs : List LV} : ldF tk P M t σ (.adr cs) = ldC tk (aggOf P t) cs := _root_.id rfl
theorem ld_ref {B : Blk} {i j : Nat} : ldF tk P M t σ (.ref B i j) = (¬ M B.b ∧ ldR tk P t i j (look σ B)) := by
  simp only [ldF, ldK, ldR]
  cases look σ B with
  | none => rfl
  | some xs =>
    simp only [ldD]
    cases aggOf P t with
    | none => rfl
    | some o => cases o <;> rfl
theorem ldR_some {xs : List LV} {i j : Nat} : ldR tk P t i j (some xs) = (i < xs.length ∧ ldD tk j (aggOf P t) (xs.getD i .any).cells) := _root_.id rfl
theorem ldD_one {j : Nat} {cs : List LV} : ldD tk j (some none) cs = (j < cs.length ∧ k (cs.getD j .any)) := _root_.id rfl
theorem ldD_agg {j m : Nat} {cs : List LV} : ldD tk j (some (some m)) cs = (j + m ≤ cs.length ∧ k (.agg ((cs.drop j).take m))) := _root_.id rfl
theorem ldC_one {c : LV} {cs : List LV} : ldC tk (some none) (c :: cs) = k c := by simp [ldC]
theorem ldC_agg {m : Nat} {cs : List LV} : ldC tk (some (some m)) cs = (m ≤ cs.length ∧ k (.agg (cs.take m))) := _root_.id rfl
theorem len_ro {sz : Nat} {xs : List LV} {m : Nat} : lnF tk (some m) (.ro sz xs) = k (.val (.int .i64 xs.length)) := by simp [lnF]
theorem len_msl {B : Blk} {off m m' : Nat} : lnF tk (some m') (.msl B off m) = k (.val (.int .i64 m)) := by simp [lnF]
theorem len_nil {ad : Option Addr} {m cap m' : Nat} : lnF tk (some m') (.val (.slice ad m cap)) = k (.val (.int .i64 m)) := by simp [lnF]
theorem mx2 : mxF tk true [.val (.int q a), .val (.int q' b)] = k (.val (.int q (max a b))) := _root_.id rfl
theorem mn2 : mxF tk false [.val (.int q a), .val (.int q' b)] = k (.val (.int q (min a b))) := _root_.id rfl
theorem mx3 {q2 : IntKind} : mxF tk true [.val (.int q a), .val (.int q' b), .val (.int q2 c)] = k (.val (.int q (max (max a b) c))) := _root_.id rfl
theorem mn3 {q2 : IntKind} : mxF tk false [.val (.int q a), .val (.int q' b), .val (.int q2 c)] = k (.val (.int q (min (min a b) c))) := _root_.id rfl
theorem bd_some {ps : List (Nat × Nat)} {zs : List Value} {parts : List (Nat × LV)} : bdF tk (some ps) (some zs) parts = ((zs.map LV.val).all LV.one = true ∧ flF (Tk.mk : Tk fun cs => k (.agg cs)) ps (zs.map .val) parts) := _root_.id rfl
theorem fl_nil {kl : List LV → Prop} {tl : Tk kl} {ps : List (Nat × Nat)} {cs : List LV} : flF tl ps cs [] = kl cs := _root_.id rfl
theorem fl_cons {kl : List LV → Prop} {tl : Tk kl} {ps : List (Nat × Nat)} {cs : List LV} {i : Nat} {x : LV} {rest : List (Nat × LV)} : flF tl ps cs ((i, x) :: rest) = flG tl ps (ps[i]?) cs x rest := by
  unfold flF flG
  conv => lhs; unfold fillL
  cases ps[i]? with
  | none => rfl
  | some o => rfl
theorem fl_some {kl : List LV → Prop} {tl : Tk kl} {ps : List (Nat × Nat)} {cs : List LV} {off size : Nat} {x : LV} {rest : List (Nat × LV)} : flG tl ps (some (off, size)) cs x rest = (x.cells.length = size ∧ off + size ≤ cs.length ∧ x.cells.all LV.one = true ∧ flF tl ps (cs.take off ++ x.cells ++ cs.drop (off + size)) rest) := _root_.id rfl
theorem fe_nil {kl : List LV → Prop} {tl : Tk kl} {sz : Nat} {es : List LV} : feF tl sz es [] = kl es := _root_.id rfl
theorem fe_cons {kl : List LV → Prop} {tl : Tk kl} {sz i : Nat} {es : List LV} {x : LV} {rest : List (Nat × LV)} : feF tl sz es ((i, x) :: rest) = (i < es.length ∧ x.cells.length = sz ∧ x.cells.all LV.one = true ∧ feF tl sz (es.set i x) rest) := _root_.id rfl
theorem al_some {z : LV} : alF th σ (some z) = alM th σ z.cells.length z := _root_.id rfl
theorem al_go {m : Nat} {z : LV} : alM th σ m z = Box (Tk.mk : Tk (AllB σ fun b => kh (.ref ⟨b, m, m⟩ 0 0) ((⟨b, m, m⟩, [z]) :: σ))) := _root_.id rfl
theorem bx_eq {x : LV} : bxF th σ x = (x.cells.all LV.one = true ∧ alM th σ x.cells.length x) := _root_.id rfl
theorem sl_go {sz len m : Nat} {es : List LV} : slM th σ sz len m es = Box (Tk.mk : Tk (AllB σ fun b => kh (.msl ⟨b, sz, m⟩ 0 len) ((⟨b, sz, m⟩, es) :: σ))) := _root_.id rfl
theorem bs_some {len sz by_ : Nat} {z : LV} {parts : List (Nat × LV)} : bsF th σ len (some (z, sz, by_)) parts = (len * sz ≤ 16777216 ∧ feF (Tk.mk : Tk fun es => slM th σ sz len (len * sz) es) sz (List.replicate len z) parts) := _root_.id rfl
theorem st_ref {B : Blk} {i j : Nat} {x : LV} : stF th P M σ t (.ref B i j) x = (M B.b ∧ stM th σ B i j (sizeIs P t) (look σ B) x) := _root_.id rfl
theorem st_some {B : Blk} {i j : Nat} {s : Option Nat} {xs : List LV} {x : LV} : stM th σ B i j s (some xs) x = (i < xs.length ∧ j + x.cells.length ≤ (xs.getD i .any).cells.length ∧ 0 < x.cells.length ∧ x.cells.all LV.one = true ∧ s = some x.cells.length ∧ app2 th (.val undef) (hput σ B (xs.set i (setCells (xs.getD i .any) j x)))) := _root_.id rfl
theorem ms_some {z : LV} {sz by_ : Nat} {l c : Int} : msF th σ (some (z, sz, by_)) (.val (.int q l)) (.val (.int q' c)) = (0 ≤ l ∧ l ≤ c ∧ c ≤ maxLen ∧ (by_ : Int) * c ≤ 281474976710656 ∧ Box (Tk.mk : Tk (AllB σ fun b => kh (.msl ⟨b, sz, c.toNat * sz⟩ 0 l.toNat) ((⟨b, sz, c.toNat * sz⟩, List.replicate c.toNat z) :: σ)))) := _root_.id rfl
theorem cl_fn {g : FuncId} {cap xs : List LV} : clF th P M σ (.fn g cap) xs = clH th P M σ g (xs ++ cap) := _root_.id rfl
theorem sc_roL {sz : Nat} {xs : List LV} : scF tk P t (some (.val (.int q a))) none (.ro sz xs) = (elOf P t = some sz ∧ 0 ≤ a ∧ a ≤ xs.length ∧ k (.ro sz ((xs.take xs.length).drop a.toNat))) := _root_.id rfl
theorem sc_roH {sz : Nat} {xs : List LV} : scF tk P t none (some (.val (.int q a))) (.ro sz xs) = (elOf P t = some sz ∧ 0 ≤ a ∧ a ≤ xs.length ∧ k (.ro sz ((xs.take a.toNat).drop 0))) := _root_.id rfl
def eqG {k : LV → Prop} (tk : Tk k) (ng : Bool) (o : Option Bool) : Prop := match o with
  | some r => k (.val (.bool (xor ng r)))
  | none => False
def eqF {k : LV → Prop} (tk : Tk k) (ng : Bool) (ks : Option (List Bool)) (cs ds : List LV) : Prop := match ks with
  | some ks => eqG tk ng (eqL ks cs ds)
  | none => False
theorem bin_eqlA {cs ds : List LV} : binF tk P .eql t (.agg cs) (.agg ds) = eqF tk false (eqTy P t) cs ds := by
  unfold binF binK eqF eqG
  cases eqTy P t with
  | none => rfl
  | some ks => simp only; cases eqL ks cs ds <;> simp
theorem bin_neqA {cs ds : List LV} : binF tk P .neq t (.agg cs) (.agg ds) = eqF tk true (eqTy P t) cs ds := by
  unfold binF binK eqF eqG
  cases eqTy P t with
  | none => rfl
  | some ks => simp only; cases eqL ks cs ds <;> simp
theorem eqF_some {ng : Bool} {ks : List Bool} {cs ds : List LV} : eqF tk ng (some ks) cs ds = eqG tk ng (eqL ks cs ds) := _root_.id rfl
theorem eqG_f {r : Bool} : eqG tk false (some r) = k (.val (.bool r)) := by simp [eqG]
theorem eqG_t {r : Bool} : eqG tk true (some r) = k (.val (.bool (!r))) := by simp [eqG]
theorem eqL_nil : eqL [] [] [] = some true := _root_.id rfl
theorem eqL_int {ks : List Bool} {x y : Int} {xs ys : List LV} : eqL (true :: ks) (.val (.int q x) :: xs) (.val (.int q y) :: ys) = (eqL ks xs ys).map (decide (x = y) && ·) := by simp [eqL]
theorem eqL_bool {ks : List Bool} {x y : Bool} {xs ys : List LV} : eqL (false :: ks) (.val (.bool x) :: xs) (.val (.bool y) :: ys) = (eqL ks xs ys).map ((x == y) && ·) := _root_.id rfl
theorem sc_nL : scF tk P t (some (.val (.int q a))) none (.val (.slice none 0 0)) = ((elOf P t).isSome = true ∧ 0 ≤ a ∧ a ≤ (0 : Nat) ∧ k (.val (.slice none 0 0))) := _root_.id rfl
theorem sc_nH : scF tk P t none (some (.val (.int q a))) (.val (.slice none 0 0)) = ((elOf P t).isSome = true ∧ 0 ≤ a ∧ a ≤ (0 : Nat) ∧ k (.val (.slice none 0 0))) := _root_.id rfl
theorem sc_mL {B : Blk} {off len : Nat} : scF tk P t (some (.val (.int q a))) none (.msl B off len) = (elOf P t = some B.sz ∧ 0 ≤ a ∧ a ≤ len ∧ (a.toNat < len ∨ a.toNat = 0 → k (.msl B (off + a.toNat) (len - a.toNat))) ∧ (a.toNat = len → a.toNat ≠ 0 → k (.ro B.sz []))) := _root_.id rfl
theorem sc_mH {B : Blk} {off len : Nat} : scF tk P t none (some (.val (.int q a))) (.msl B off len) = (elOf P t = some B.sz ∧ 0 ≤ a ∧ a ≤ len ∧ (0 < a.toNat ∨ 0 = 0 → k (.msl B (off + 0) (a.toNat - 0))) ∧ (0 = a.toNat → 0 ≠ 0 → k (.ro B.sz []))) := _root_.id rfl
end

/-! ### Code -/
variable {Ke : Exit → Fr → Heap → Prop}
theorem WC.go (hm : P.follows .mixedOrders = true) {c : Code} (h : wc P n c fr σ Ke) : Box (Tk.mk : Tk (WC P n c fr σ Ke)) := wc_sound hm c fr σ Ke h
theorem wc_skip : wc P n .skip fr σ Ke = Ke .normal fr σ := _root_.id rfl
theorem wc_region {id : Nat} {l : List Oper} : wc P n (.region id l.toArray false) fr σ Ke = wopsI P 0 (fun _ => none) l fr σ (Ke .normal) := by simp [wc]
/-- A region whose order is open, with its number. -/
def drawF (id : Nat) (P : Program) (ops : Array Oper) (fr : Fr) (σ : Heap) (K : Fr → Heap → Prop) : Prop := wdraw P ops fr σ K
theorem wc_draw {id : Nat} {ops : Array Oper} : wc P n (.region id ops true) fr σ Ke = Box (Tk.mk : Tk (drawF id P ops fr σ (Ke .normal))) := _root_.id rfl
theorem wc_seq {x y : Code} : wc P n (.seq x y) fr σ Ke = wc P n x fr σ fun e fr σ => match e with
    | .normal => Box (Tk.mk : Tk (WC P n y fr σ Ke))
    | e => Ke e fr σ := _root_.id rfl
section
variable {k1 k2 : Prop} {t1 : Tk k1} {t2 : Tk k2}
theorem cd_t : cdF t1 t2 (.val (.bool true)) = k1 := by simp [cdF]
theorem cd_f : cdF t1 t2 (.val (.bool false)) = k2 := by simp [cdF]
theorem cd_b {b : Bool} : cdF t1 t2 (.val (.bool b)) = ((b = true → k1) ∧ (b = false → k2)) := _root_.id rfl
end
theorem wc_cond {c : Operand} {x y : Code} : wc P n (.cond c x y) fr σ Ke = cdF (Tk.mk : Tk (Box (Tk.mk : Tk (WC P n x fr σ Ke)))) (Tk.mk : Tk (Box (Tk.mk : Tk (WC P n y fr σ Ke)))) (ev fr c) := _root_.id rfl
theorem wc_block {id : Nat} {c : Code} : wc P n (.block id c) fr σ Ke = wc P n c fr σ fun e fr σ => match e with
    | .exit i => if i = id then Ke .normal fr σ else Ke (.exit i) fr σ
    | e => Ke e fr σ := _root_.id rfl
theorem wc_loop {c : Code} : wc P n (.loop c) fr σ Ke = Box (Tk.mk : Tk (WC P n (.loop c) fr σ Ke)) := _root_.id rfl
theorem wc_exit {id : Nat} : wc P n (.exit id) fr σ Ke = Ke (.exit id) fr σ := _root_.id rfl
theorem wc_ret : wc P n .ret fr σ Ke = Ke .ret fr σ := _root_.id rfl
end

/-! ### Calls -/
/-- A function that only computes: it leaves no memory of its own. -/
def Pure (P : Program) (f : FuncId) (args : List LV) (r : LV) : Prop := LCalls P f args [] fun x σ' => x = r ∧ σ' = []

theorem callK_pure {P : Program} {M : Nat → Prop} {f : FuncId} {xs : List LV} {σ : Heap} {k : LV → Heap → Prop} {r : LV} (h : Pure P f xs r) (hk : k r σ) : callK P M f xs σ k :=
  ⟨[], σ, List.Perm.refl _, fun b hb => (dom_nil hb).elim, h.mono fun x σ' ⟨hx, hs⟩ => by subst hx; subst hs; exact hk⟩
theorem call_pure {P : Program} {M : Nat → Prop} {f : FuncId} {xs : List LV} {σ : Heap} {k : LV → Heap → Prop} {t : Tk k} {r : LV} (h : Pure P f xs r) (hk : k r σ) : clH t P M σ f xs := callK_pure h hk
theorem draw_plan {P : Program} {ops : Array Oper} {fr : Fr} {σ : Heap} {K : Fr → Heap → Prop} (id : Nat) (M : List Nat) (pl : List (Nat × Nat)) (hp : planOk ops (dsOf ops) pl (Array.replicate ops.size false) = true) (hl : Nat.ble pl.length ops.size = true) (h : Box (Tk.mk : Tk (wplan P (· ∈ M) ops pl fr σ K))) : Box (Tk.mk : Tk (drawF id P ops fr σ K)) :=
  ⟨pl, M, hp, Nat.le_of_ble_eq_true hl, h⟩
theorem new_block {σ : Heap} {f : Nat → Prop} (h : ∀ b, ¬ dom σ b → f b) : Box (Tk.mk : Tk (AllB σ f)) := h

attribute [simp ↓] put_some put_none gput_eq ev_tmp ev_const ev_func wops_nil wops_none wops_some wr_move wr_assign wr_pick wr_binOp wr_unOp wr_convert wr_extract wr_nilCheck wr_fieldAddr wr_indexAddr wr_load wr_makeFunc wr_slice wr_build wr_len wr_max wr_min wr_alloc wr_box wr_buildSlice wr_makeSlice wr_store wr_append wr_call
attribute [simp ↓] wc_skip wc_region wc_draw wc_seq wc_cond wc_block wc_loop wc_exit wc_ret
attribute [simp] gu_some gdK_u gdK_tt gdK_tf gdK_ft gdK_ff app1_eq app2_eq pick_t pick_f bin_add bin_sub bin_mul bin_quo bin_rem bin_lss bin_leq bin_gtr bin_geq bin_eql bin_neq bin_eqlb bin_neqb bin_eqlA bin_neqA eqF_some eqG_f eqG_t eqL_nil eqL_int eqL_bool un_not un_neg cv_int ex_tup nc_adr nc_ref fa_adr fa_ref ix_ro ix1_eq ix_msl ix_ref ix_adr ixG_some ixH_some ld_adr ld_ref ldR_some ldD_one ldD_agg ldC_one ldC_agg len_ro len_msl len_nil mx2 mn2 mx3 mn3 bd_some fl_nil fl_cons fl_some fe_nil fe_cons al_some al_go bx_eq sl_go bs_some st_ref st_some ms_some cl_fn sc_roL sc_roH sc_nL sc_nH sc_mL sc_mH cd_t cd_f
@[simp] theorem resOne_tmp {P : Program} {σ : Heap} {fr : Fr} {k : LV → Prop} {t : Tmp} : resOne P σ fr k (.tmp t) = k (fr t) := _root_.id rfl
@[simp] theorem resOne_cell {P : Program} {σ : Heap} {fr : Fr} {k : LV → Prop} {a : Tmp} {t : TypeId} : resOne P σ fr k (.cell a t) = ldF (Tk.mk : Tk k) P (fun _ => False) t σ (fr a) := _root_.id rfl
@[simp] theorem sub_nil {σ : Heap} : Sub [] σ := Sub.nil σ
attribute [simp low] gdK_b pick_b cd_b
attribute [simp] look hput LV.cells LV.one Value.oneCell' resK resAll resOf fr0 setCells dom_cons dom_nil
end Go.Ls
