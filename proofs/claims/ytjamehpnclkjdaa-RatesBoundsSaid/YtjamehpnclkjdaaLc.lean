/- A small program logic over the kit's machine, part c: what the conditions of part b are worth. It bears no statement of its own. -/
import Derived.Test.YtjamehpnclkjdaaLb
namespace Go.Ls
open Go
set_option linter.unusedVariables false
set_option linter.unusedSimpArgs false

def ev (fr : Fr) : Operand → LV
  | .tmp t => fr t
  | .const v => .val v
  | .func f => .fn f []
  | .global _ => .any

theorem add_none (b o n : Nat) : (⟨b, o, none⟩ : Addr).add n = ⟨b, o + n, none⟩ := by
  unfold Addr.add
  split
  · rename_i h; subst h; rfl
  · rfl

section
variable {P : Program} {n : Nat} {w0 : World} {D0 G : Nat → Prop} {fr : Fr} {σ : Heap} {a : Act} {w : World} {M : Nat → Prop}

theorem Rel.evr (h : Rel n w0 D0 G fr σ a w) (x : Operand) : VR w (fun b => dom σ b ∨ G b) (ev fr x) (a.eval x) := by
  cases x with
  | tmp t => exact h.frame t
  | const v => exact .val v
  | global g => exact .any _
  | func f => exact .fn rfl (fun i c v hc => by simp at hc)
end

section
variable {P : Program} {w : World} {F M : Nat → Prop} {k : LV → Prop}

/-- A computation that leaves v and touches nothing, in every world of C. -/
abbrev Gives (P : Program) (C : World → Prop) (s : Sem Value) (v : Value) : Prop := ∀ w', C w' → s.run P w' = .ok v w'

theorem bin_sound {op : BinOp} {t : TypeId} {x y : LV} {vx vy : Value} (hx : VR w F x vx) (hy : VR w F y vy) (h : binK P op t k x y) (C : World → Prop) (ox oy : Operand) :
    ∃ v z, k z ∧ VR w F z v ∧ Gives P C (do eqGuard op t ox oy vx vy; binOp op t vx vy) v := by
  unfold binK at h
  split at h
  · rename_i q a q' b
    cases hx
    cases hy
    obtain ⟨rfl, h⟩ := h
    have hg : eqGuard op t ox oy (.int q a) (.int q b) = pure () := by cases op <;> rfl
    split at h
    · exact ⟨_, _, h, .val _, fun w' _ => by simp [hg, binOp, Op.intArith]⟩
    · exact ⟨_, _, h, .val _, fun w' _ => by simp [hg, binOp, Op.intArith]⟩
    · exact ⟨_, _, h, .val _, fun w' _ => by simp [hg, binOp, Op.intArith]⟩
    · exact ⟨_, _, h.2, .val _, fun w' _ => by simp [hg, binOp, Op.intDiv, h.1]⟩
    · exact ⟨_, _, h.2, .val _, fun w' _ => by simp [hg, binOp, Op.intDiv, h.1]⟩
    · exact ⟨_, _, h, .val _, fun w' _ => by simp [hg, binOp, Op.intCmp]⟩
    · exact ⟨_, _, h, .val _, fun w' _ => by simp [hg, binOp, Op.intCmp]⟩
    · exact ⟨_, _, h, .val _, fun w' _ => by simp [hg, binOp, Op.intCmp]⟩
    · exact ⟨_, _, h, .val _, fun w' _ => by simp [hg, binOp, Op.intCmp]⟩
    · exact ⟨_, _, h, .val _, fun w' _ => by simp [hg, binOp, Op.intCmp]; rfl⟩
    · exact ⟨_, _, h, .val _, fun w' _ => by simp [hg, binOp, Op.intCmp]; rfl⟩
    · exact h.elim
  · rename_i a b
    cases hx
    cases hy
    obtain ⟨ht, h⟩ := h
    have he : ∀ d w, (Op.equalIn (d + 1) t (.bool a) (.bool b)).run P w = .ok (a == b) w := fun d w => by simp only [Op.equalIn, Sem.run_bind, run_underlying ht, Result.andThen_ok, Sem.run_pure]
    have hq : ∀ w, (Op.equal t (.bool a) (.bool b)).run P w = .ok (a == b) w := fun w => he 9999 w
    have hg : eqGuard op t ox oy (.bool a) (.bool b) = pure () := by cases op <;> rfl
    split at h
    · refine ⟨_, _, h, .val _, fun w' _ => ?_⟩
      have hb : binOp .eql t (.bool a) (.bool b) = (do pure (.bool (← Op.equal t (.bool a) (.bool b)))) := rfl
      simp [hg, hb, hq]
    · refine ⟨_, _, h, .val _, fun w' _ => ?_⟩
      have hb : binOp .neq t (.bool a) (.bool b) = (do pure (.bool (!(← Op.equal t (.bool a) (.bool b))))) := rfl
      simp [hg, hb, hq]
    · exact h.elim
  · exact h.elim

theorem un_sound {op : UnOp} {x : LV} {vx : Value} (hx : VR w F x vx) (h : unK op k x) (C : World → Prop) : ∃ v z, k z ∧ VR w F z v ∧ Gives P C (Op.unary op vx) v := by
  unfold unK at h
  split at h
  · cases hx
    split at h
    · exact ⟨_, _, h, .val _, fun w' _ => by simp [Op.unary]⟩
    · exact h.elim
  · cases hx
    split at h
    · exact ⟨_, _, h, .val _, fun w' _ => by simp [Op.unary, Op.intArith]⟩
    · exact h.elim
  · exact h.elim

theorem aggOf_agg {t : TypeId} {m : Nat} (h : aggOf P t = some (some m)) : (∀ w, (isAgg t).run P w = .ok true w) ∧ ∀ w, (sizeOf t).run P w = .ok m w := by
  unfold aggOf at h
  split at h
  · rename_i hd
    cases hi : P.info? t with
    | none => simp [hi] at h
    | some i => simp [hi] at h; exact ⟨fun w => by simp [isAgg, run_underlying hd], fun w => by simp [sizeOf, typeInfo, hi, h]⟩
  · rename_i hd
    cases hi : P.info? t with
    | none => simp [hi] at h
    | some i => simp [hi] at h; exact ⟨fun w => by simp [isAgg, run_underlying hd], fun w => by simp [sizeOf, typeInfo, hi, h]⟩
  · simp at h
  · simp at h

theorem aggOf_one {t : TypeId} (h : aggOf P t = some none) : ∀ w, (isAgg t).run P w = .ok false w := by
  unfold aggOf at h
  split at h
  · cases hi : P.info? t <;> simp [hi] at h
  · cases hi : P.info? t <;> simp [hi] at h
  · rename_i d h1 h2 hd
    intro w
    simp only [isAgg, Sem.run_bind, run_underlying hd, Result.andThen_ok]
    cases d <;> first | rfl | (exact absurd hd (h1 _)) | (exact absurd hd (h2 _ _))
  · simp at h

/-- Cells that lie from an address on, as the machine loads them. -/
theorem load_sound {t : TypeId} {b o : Nat} {cs : List LV} {vv : Nat → Value} {C : World → Prop} (hw : ∀ (j : Nat) (c : LV), cs[j]? = some c → ∀ w', C w' → w'.cell? ⟨b, o + j, none⟩ = some (vv j)) (hr : ∀ (j : Nat) (c : LV), cs[j]? = some c → VR w F c (vv j))
    (h : match aggOf P t with
      | some (some m) => m ≤ cs.length ∧ k (.agg (cs.take m))
      | some none => 0 < cs.length ∧ k (cs.getD 0 .any)
      | none => False) : ∃ v z, k z ∧ VR w F z v ∧ Gives P C (Instr.loadAt t (.pointer (some ⟨b, o, none⟩))) v := by
  split at h
  · rename_i m hm
    obtain ⟨hl, h⟩ := h
    obtain ⟨h1, h2⟩ := aggOf_agg hm
    refine ⟨.agg ((List.range m).map vv).toArray, _, h, .agg (by simp; omega) (fun i c v hc hv => ?_), fun w' hC => ?_⟩
    · simp only [List.getElem?_take] at hc
      split at hc
      · rename_i hi
        simp [hi] at hv
        subst hv
        exact hr i c hc
      · cases hc
    · have hcells : (loadCells ⟨b, o, none⟩ m).run P w' = .ok ((List.range m).map vv).toArray w' :=
        run_loadCells w' ⟨b, o, none⟩ m vv (fun j hj => by
          rw [add_none]
          have hjl : j < cs.length := by omega
          exact hw j cs[j] (List.getElem?_eq_getElem hjl) w' hC)
      simp [Instr.loadAt, Instr.sureAddr, loadVar, h1, h2, hcells]
  · rename_i hm
    obtain ⟨hl, h⟩ := h
    have h1 := aggOf_one hm
    have h0 : cs[0]? = some (cs.getD 0 .any) := by simp [List.getD, List.getElem?_eq_getElem hl]
    refine ⟨vv 0, _, h, hr 0 _ h0, fun w' hC => ?_⟩
    have := hw 0 _ h0 w' hC
    simp only [Nat.add_zero] at this
    simp [Instr.loadAt, Instr.sureAddr, loadVar, h1, this]
  · exact h.elim

theorem idx_sound {t : TypeId} {q : IntKind} {n : Int} {x : LV} {vx : Value} (hx : VR w F x vx) (h : idxK P t n k x) (C : World → Prop) : ∃ v z, k z ∧ VR w F z v ∧ Gives P C (Instr.indexAt t vx (.int q n)) v := by
  have hel : ∀ {s : Nat}, elOf P t = some s → ∃ e, P.underlying t = some (.slice e) ∧ ∀ w, (sizeOf e).run P w = .ok s w := fun {s} he => by
    unfold elOf at he
    split at he
    · rename_i e hd
      cases hi : P.info? e with
      | none => simp [hi] at he
      | some i => simp [hi] at he; exact ⟨e, hd, fun w => by simp [sizeOf, typeInfo, hi, he]⟩
    · cases he
  have har : ∀ {m s : Nat}, arrOf P t = some (m, s) → ∃ e, P.underlying t = some (.array m e) ∧ ∀ w, (sizeOf e).run P w = .ok s w := fun {m s} he => by
    unfold arrOf at he
    split at he
    · rename_i n' e hd
      cases hi : P.info? e with
      | none => simp [hi] at he
      | some i => simp [hi] at he; obtain ⟨rfl, rfl⟩ := he; exact ⟨e, hd, fun w => by simp [sizeOf, typeInfo, hi]⟩
    · cases he
  unfold idxK at h
  split at h
  · rename_i sz xs
    obtain ⟨he, h0, h1, h⟩ := h
    obtain ⟨e, hd, hs⟩ := hel he
    cases hx with
    | nil => simp at h1; omega
    | ro vv hF hb hc hz ho hw hr =>
      rename_i b o cap
      have hn : n.toNat < xs.length := by omega
      have hg : xs[n.toNat]? = some (xs.getD n.toNat .any) := by simp [List.getD, List.getElem?_eq_getElem hn]
      refine ⟨.pointer (some ⟨b, o + n.toNat * sz, none⟩), _, h, .adr (vv n.toNat) hF hb (fun j c hj => ho _ _ j c hg hj) (fun j c hj => ?_) (fun j c hj => hr _ _ j c hg hj), fun w' _ => ?_⟩
      · rw [Nat.add_assoc]; exact hw _ _ j c hg hj
      · simp [Instr.indexAt, asIntOf, run_underlying hd, h0, h1, hs, add_none]
  · rename_i B off len
    obtain ⟨he, h0, h1, h⟩ := h
    obtain ⟨e, hd, hs⟩ := hel he
    cases hx with
    | msl hc hm hr =>
      refine ⟨.pointer (some ⟨B.b, off * B.sz + n.toNat * B.sz, none⟩), _, h, ?_, fun w' _ => ?_⟩
      · have e : off * B.sz + n.toNat * B.sz = (off + n.toNat) * B.sz + 0 := by rw [Nat.add_mul, Nat.add_zero]
        rw [e]
        exact .ref
      · simp [Instr.indexAt, asIntOf, run_underlying hd, h0, h1, hs, add_none]
  · rename_i B i j
    split at h
    · rename_i len s ha
      obtain ⟨h0, h1, h⟩ := h
      obtain ⟨e, hd, hs⟩ := har ha
      cases hx with
      | ref =>
        refine ⟨.pointer (some ⟨B.b, i * B.sz + j + n.toNat * s, none⟩), _, h, ?_, fun w' _ => ?_⟩
        · rw [Nat.add_assoc]; exact .ref
        · simp [Instr.indexAt, Instr.sureAddr, asIntOf, run_underlying hd, h0, h1, hs, add_none]
    · exact h.elim
  · rename_i cs
    split at h
    · rename_i len s ha
      obtain ⟨h0, h1, h⟩ := h
      obtain ⟨e, hd, hs⟩ := har ha
      cases hx with
      | adr vv hF hb ho hw hr =>
        rename_i b o
        refine ⟨.pointer (some ⟨b, o + n.toNat * s, none⟩), _, h, .adr (fun j => vv (n.toNat * s + j)) hF hb (fun j c hj => ?_) (fun j c hj => ?_) (fun j c hj => ?_), fun w' _ => ?_⟩
        · rw [List.getElem?_drop] at hj; exact ho _ c hj
        · rw [List.getElem?_drop] at hj; rw [Nat.add_assoc]; exact hw _ c hj
        · rw [List.getElem?_drop] at hj; exact hr _ c hj
        · simp [Instr.indexAt, Instr.sureAddr, asIntOf, run_underlying hd, h0, h1, hs, add_none]
    · exact h.elim
  · exact h.elim

theorem len_sound {t : TypeId} {x : LV} {vx : Value} {ts : Array TypeId} {ty : TypeId} (ht : ts[0]? = some t) (hx : VR w F x vx) (h : lenK P t k x) (C : World → Prop) : ∃ v z, k z ∧ VR w F z v ∧ Gives P C (Builtin.len_ ts ty #[vx]) v := by
  have hel : (elOf P t).isSome = true → ∃ e, P.underlying t = some (.slice e) := fun he => by
    unfold elOf at he
    split at he
    · rename_i e hd; exact ⟨e, hd⟩
    · simp at he
  unfold lenK at h
  split at h
  · obtain ⟨he, h⟩ := h
    obtain ⟨e, hd⟩ := hel he
    cases hx with
    | nil => exact ⟨_, _, h, .val _, fun w' _ => by simp [Builtin.len_, ht, run_underlying hd, goInt]⟩
    | ro => exact ⟨_, _, h, .val _, fun w' _ => by simp [Builtin.len_, ht, run_underlying hd, goInt]⟩
  · obtain ⟨he, h⟩ := h
    obtain ⟨e, hd⟩ := hel he
    cases hx with
    | msl => exact ⟨_, _, h, .val _, fun w' _ => by simp [Builtin.len_, ht, run_underlying hd, goInt]⟩
  · obtain ⟨he, h⟩ := h
    obtain ⟨e, hd⟩ := hel he
    cases hx with
    | val => exact ⟨_, _, h, .val _, fun w' _ => by simp [Builtin.len_, ht, run_underlying hd, goInt]⟩
  · exact h.elim

theorem mx_sound {mx : Bool} {xs : List LV} {vs : Array Value} (hl : xs.length = vs.size) (hv : ∀ (i : Nat) (c : LV) (v : Value), xs[i]? = some c → vs[i]? = some v → VR w F c v) (h : mxK mx k xs) (C : World → Prop) (ts : Array TypeId) (ty : TypeId) :
    ∃ v z, k z ∧ VR w F z v ∧ Gives P C (if mx then Builtin.max_ ts ty vs else Builtin.min_ ts ty vs) v := by
  have hM : ∀ a b : Int, (if b > a then b else a) = max a b := fun a b => by simp only [Int.max_def]; split <;> split <;> omega
  have hm : ∀ a b : Int, (if b < a then b else a) = min a b := fun a b => by simp only [Int.min_def]; split <;> split <;> omega
  obtain ⟨l⟩ := vs
  simp at hl
  unfold mxK at h
  split at h
  · rename_i q a q' b
    obtain ⟨v0, v1, rfl⟩ : ∃ v0 v1, l = [v0, v1] := by
      match l, hl with
      | [v0, v1], _ => exact ⟨_, _, rfl⟩
    have h0 := hv 0 _ v0 rfl rfl
    have h1 := hv 1 _ v1 rfl rfl
    cases h0
    cases h1
    refine ⟨_, _, h, .val _, fun w' _ => ?_⟩
    cases mx <;> simp [Builtin.max_, Builtin.min_, Builtin.max2, Builtin.min2, hM, hm]
  · rename_i q a q' b q'' c
    obtain ⟨v0, v1, v2, rfl⟩ : ∃ v0 v1 v2, l = [v0, v1, v2] := by
      match l, hl with
      | [v0, v1, v2], _ => exact ⟨_, _, _, rfl⟩
    have h0 := hv 0 _ v0 rfl rfl
    have h1 := hv 1 _ v1 rfl rfl
    have h2 := hv 2 _ v2 rfl rfl
    cases h0
    cases h1
    cases h2
    refine ⟨_, _, h, .val _, fun w' _ => ?_⟩
    cases mx <;> simp [Builtin.max_, Builtin.min_, Builtin.max2, Builtin.min2, hM, hm]
  · rename_i q a q' b q'' c q3 d
    obtain ⟨v0, v1, v2, v3, rfl⟩ : ∃ v0 v1 v2 v3, l = [v0, v1, v2, v3] := by
      match l, hl with
      | [v0, v1, v2, v3], _ => exact ⟨_, _, _, _, rfl⟩
    have h0 := hv 0 _ v0 rfl rfl
    have h1 := hv 1 _ v1 rfl rfl
    have h2 := hv 2 _ v2 rfl rfl
    have h3 := hv 3 _ v3 rfl rfl
    cases h0
    cases h1
    cases h2
    cases h3
    refine ⟨_, _, h, .val _, fun w' _ => ?_⟩
    cases mx <;> simp [Builtin.max_, Builtin.min_, Builtin.max2, Builtin.min2, hM, hm]
  · exact h.elim
end
end Go.Ls
