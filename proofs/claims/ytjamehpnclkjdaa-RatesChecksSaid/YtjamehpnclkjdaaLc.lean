/- A small program logic over the kit's machine, part c: what the conditions of part b are worth. It bears no statement of its own. -/
import Derived.Test.YtjamehpnclkjdaaLb
import Derived.Laws.StructEq
import Derived.ChangeKeysEq
namespace Go.Ls
open Go
set_option linter.unusedVariables false
set_option linter.unusedSimpArgs false

def ev (fr : Fr) : Operand → LV
  | .tmp t => fr t
  | .const v => .val v
  | .func f => .fn f []
  | .global _ => .any

theorem add_none (b o n : Nat) : (⟨b, o, none⟩ : Addr).add n = ⟨b, o + n, none⟩ := by
  unfold Addr.add
  split
  · rename_i h; subst h; rfl
  · rfl

section
variable {P : Program} {n : Nat} {w0 : World} {D0 G : Nat → Prop} {fr : Fr} {σ : Heap} {a : Act} {w : World} {M : Nat → Prop}

theorem Rel.evr (h : Rel n w0 D0 G fr σ a w) (x : Operand) : VR w (fun b => dom σ b ∨ G b) (ev fr x) (a.eval x) := by
  cases x with
  | tmp t => exact h.frame t
  | const v => exact .val v
  | global g => exact .any _
  | func f => exact .fn rfl (fun i c v hc => by simp at hc)
end

section
variable {P : Program} {w : World} {F M : Nat → Prop} {k : LV → Prop}

/-- A computation that leaves v and touches nothing, in every world of C. -/
abbrev Gives (P : Program) (C : World → Prop) (s : Sem Value) (v : Value) : Prop := ∀ w', C w' → s.run P w' = .ok v w'

theorem eqFs_run : ∀ (fs : List Field) (j : Nat) (ks : List Bool) (cs ds : List LV) (r : Bool) (xs ys : Array Value) (dp : Nat), eqFs P j fs = some ks → eqL ks cs ds = some r →
    (∀ (i : Nat) (c : LV), cs[i]? = some c → ∃ v, xs[j + i]? = some v ∧ VR w F c v) → (∀ (i : Nat) (c : LV), ds[i]? = some c → ∃ v, ys[j + i]? = some v ∧ VR w F c v) → ∀ w', (Op.eqFields (dp + 1) xs ys fs).run P w' = .ok r w'
  | [], j, ks, cs, ds, r, xs, ys, dp, hk, hr, h1, h2, w' => by
    cases hk
    cases cs <;> cases ds <;> simp [eqL] at hr
    subst hr
    rfl
  | f :: fs, j, ks, cs, ds, r, xs, ys, dp, hk, hr, h1, h2, w' => by
    unfold eqFs at hk
    split at hk
    · cases hk
    · rename_i hf
      have hn : f.name ≠ "_" := fun e => hf (.inl e)
      have ho : f.offset = j := Classical.byContradiction fun e => hf (.inr e)
      have go : ∀ {ks' : List Bool} {cs' ds' : List LV} {c d : LV} {r' b : Bool}, eqFs P (j + 1) fs = some ks' → cs = c :: cs' → ds = d :: ds' → eqL ks' cs' ds' = some r' → r = (b && r') → P.plainKey f.type = true →
          (∀ vx vy, VR w F c vx → VR w F d vy → (Op.equalIn (dp + 1) f.type vx vy).run P w' = .ok b w') → (Op.eqFields (dp + 1) xs ys (f :: fs)).run P w' = .ok r w' := by
        intro ks' cs' ds' c d r' b hks hcs hds hr' hrb hpl he
        subst hcs
        subst hds
        obtain ⟨vx, hx, hvx⟩ := h1 0 c rfl
        obtain ⟨vy, hy, hvy⟩ := h2 0 d rfl
        rw [Nat.add_zero] at hx hy
        have ih := eqFs_run fs (j + 1) ks' cs' ds' r' xs ys dp hks hr' (fun i c hc => by
          have := h1 (i + 1) c (by simpa using hc)
          rwa [show j + (i + 1) = j + 1 + i by omega] at this) (fun i c hc => by
          have := h2 (i + 1) c (by simpa using hc)
          rwa [show j + (i + 1) = j + 1 + i by omega] at this) w'
        have p1 : (part f.type xs f.offset).run P w' = .ok vx w' := by rw [ho]; exact run_part_plain w' hpl hx
        have p2 : (part f.type ys f.offset).run P w' = .ok vy w' := by rw [ho]; exact run_part_plain w' hpl hy
        simp only [Op.eqFields, if_pos hn, Sem.run_bind, p1, p2, Result.andThen_ok, he vx vy hvx hvy, Sem.run_ite]
        subst hrb
        cases b
        · simp
        · simpa using ih
      split at hk
      · rename_i q hu
        cases hks : eqFs P (j + 1) fs with
        | none => simp [hks] at hk
        | some ks' =>
          simp [hks] at hk
          subst hk
          unfold eqL at hr
          split at hr
          · rename_i heq
            cases heq
          · rename_i k0 q0 a xs0 q1 b ys0 heq
            cases heq
            split at hr
            · rename_i hq
              subst hq
              cases hr' : eqL ks' xs0 ys0 with
              | none => simp [hr'] at hr
              | some r' =>
                simp [hr'] at hr
                refine go (b := decide (a = b)) hks rfl rfl hr' hr.symm (by simp [Program.plainKey, hu]) fun vx vy hx hy => ?_
                cases hx
                cases hy
                rw [run_equalIn_int w' dp f.type q0 q a b hu]
                congr 1
            · cases hr
          · rename_i heq
            cases heq
          · cases hr
      · rename_i hu
        cases hks : eqFs P (j + 1) fs with
        | none => simp [hks] at hk
        | some ks' =>
          simp [hks] at hk
          subst hk
          unfold eqL at hr
          split at hr
          · rename_i heq
            cases heq
          · rename_i heq
            cases heq
          · rename_i k0 a xs0 b ys0 heq
            cases heq
            cases hr' : eqL ks' xs0 ys0 with
            | none => simp [hr'] at hr
            | some r' =>
              simp [hr'] at hr
              refine go (b := (a == b)) hks rfl rfl hr' hr.symm (by simp [Program.plainKey, hu]) fun vx vy hx hy => ?_
              cases hx
              cases hy
              rw [run_equalIn_bool' w' dp f.type a b hu]
          · cases hr
      · cases hk

theorem bin_sound {op : BinOp} {t : TypeId} {x y : LV} {vx vy : Value} (hx : VR w F x vx) (hy : VR w F y vy) (h : binK P op t k x y) (C : World → Prop) (ox oy : Operand) :
    ∃ v z, k z ∧ VR w F z v ∧ Gives P C (do eqGuard op t ox oy vx vy; binOp op t vx vy) v := by
  unfold binK at h
  split at h
  · rename_i q a q' b
    cases hx
    cases hy
    obtain ⟨rfl, h⟩ := h
    have hg : eqGuard op t ox oy (.int q a) (.int q b) = pure () := by cases op <;> rfl
    split at h
    · exact ⟨_, _, h, .val _, fun w' _ => by simp [hg, binOp, Op.intArith]⟩
    · exact ⟨_, _, h, .val _, fun w' _ => by simp [hg, binOp, Op.intArith]⟩
    · exact ⟨_, _, h, .val _, fun w' _ => by simp [hg, binOp, Op.intArith]⟩
    · exact ⟨_, _, h.2, .val _, fun w' _ => by simp [hg, binOp, Op.intDiv, h.1]⟩
    · exact ⟨_, _, h.2, .val _, fun w' _ => by simp [hg, binOp, Op.intDiv, h.1]⟩
    · exact ⟨_, _, h, .val _, fun w' _ => by simp [hg, binOp, Op.intCmp]⟩
    · exact ⟨_, _, h, .val _, fun w' _ => by simp [hg, binOp, Op.intCmp]⟩
    · exact ⟨_, _, h, .val _, fun w' _ => by simp [hg, binOp, Op.intCmp]⟩
    · exact ⟨_, _, h, .val _, fun w' _ => by simp [hg, binOp, Op.intCmp]⟩
    · exact ⟨_, _, h, .val _, fun w' _ => by simp [hg, binOp, Op.intCmp]; rfl⟩
    · exact ⟨_, _, h, .val _, fun w' _ => by simp [hg, binOp, Op.intCmp]; rfl⟩
    · exact h.elim
  · rename_i a b
    cases hx
    cases hy
    obtain ⟨ht, h⟩ := h
    have he : ∀ d w, (Op.equalIn (d + 1) t (.bool a) (.bool b)).run P w = .ok (a == b) w := fun d w => by simp only [Op.equalIn, Sem.run_bind, run_underlying ht, Result.andThen_ok, Sem.run_pure]
    have hq : ∀ w, (Op.equal t (.bool a) (.bool b)).run P w = .ok (a == b) w := fun w => he 9999 w
    have hg : eqGuard op t ox oy (.bool a) (.bool b) = pure () := by cases op <;> rfl
    split at h
    · refine ⟨_, _, h, .val _, fun w' _ => ?_⟩
      have hb : binOp .eql t (.bool a) (.bool b) = (do pure (.bool (← Op.equal t (.bool a) (.bool b)))) := rfl
      simp [hg, hb, hq]
    · refine ⟨_, _, h, .val _, fun w' _ => ?_⟩
      have hb : binOp .neq t (.bool a) (.bool b) = (do pure (.bool (!(← Op.equal t (.bool a) (.bool b))))) := rfl
      simp [hg, hb, hq]
    · exact h.elim
  · rename_i cs ds
    split at h
    · rename_i ks hks
      split at h
      · rename_i r hr
        unfold eqTy at hks
        split at hks
        · rename_i fs hd
          split at hks
          · cases hks
          · rename_i hst
            simp only [Bool.or_eq_true, not_or, Bool.not_eq_true] at hst
            cases hx with
            | agg hl1 hc1 =>
              cases hy with
              | agg hl2 hc2 =>
                rename_i xs ys
                have hfs : P.fieldsOf t = fs := by unfold Program.fieldsOf; rw [hd]
                have hrun : ∀ w', (Op.equalIn 10000 t (.agg xs) (.agg ys)).run P w' = .ok r w' := fun w' => by
                  rw [run_equalIn_struct w' 9999 t xs ys (by rw [hfs]; exact hd) hst.1, hfs]
                  have get : ∀ {es : List LV} {zs : Array Value}, es.length = zs.size → (∀ (i : Nat) (c : LV) (v : Value), es[i]? = some c → zs[i]? = some v → VR w F c v) → ∀ (i : Nat) (c : LV), es[i]? = some c → ∃ v, zs[0 + i]? = some v ∧ VR w F c v := fun {es zs} hl hc i c hi => by
                    have : i < zs.size := by rw [← hl]; exact (List.getElem?_eq_some_iff.1 hi).1
                    rw [Nat.zero_add]
                    exact ⟨_, Array.getElem?_eq_getElem this, hc i c _ hi (Array.getElem?_eq_getElem this)⟩
                  exact eqFs_run fs.toList 0 ks cs ds r xs ys 9998 hks hr (get hl1 hc1) (get hl2 hc2) w'
                have hgd : ∀ (op : BinOp) w', (eqGuard op t ox oy (.agg xs) (.agg ys)).run P w' = .ok () w' := fun op w' => run_eqGuard_agg w' op t ox oy xs ys hst.2
                split at h
                · exact ⟨_, _, h, .val _, fun w' _ => by simp [hgd, run_eql_struct, hrun]⟩
                · exact ⟨_, _, h, .val _, fun w' _ => by simp [hgd, run_neq_struct, hrun]⟩
                · exact h.elim
        · cases hks
      · exact h.elim
    · exact h.elim
  · exact h.elim

theorem un_sound {op : UnOp} {x : LV} {vx : Value} (hx : VR w F x vx) (h : unK op k x) (C : World → Prop) : ∃ v z, k z ∧ VR w F z v ∧ Gives P C (Op.unary op vx) v := by
  unfold unK at h
  split at h
  · cases hx
    split at h
    · exact ⟨_, _, h, .val _, fun w' _ => by simp [Op.unary]⟩
    · exact h.elim
  · cases hx
    split at h
    · exact ⟨_, _, h, .val _, fun w' _ => by simp [Op.unary, Op.intArith]⟩
    · exact h.elim
  · exact h.elim

theorem aggOf_agg {t : TypeId} {m : Nat} (h : aggOf P t = some (some m)) : (∀ w, (isAgg t).run P w = .ok true w) ∧ ∀ w, (sizeOf t).run P w = .ok m w := by
  unfold aggOf at h
  split at h
  · rename_i hd
    cases hi : P.info? t with
    | none => simp [hi] at h
    | some i => simp [hi] at h; exact ⟨fun w => by simp [isAgg, run_underlying hd], fun w => by simp [sizeOf, typeInfo, hi, h]⟩
  · rename_i hd
    cases hi : P.info? t with
    | none => simp [hi] at h
    | some i => simp [hi] at h; exact ⟨fun w => by simp [isAgg, run_underlying hd], fun w => by simp [sizeOf, typeInfo, hi, h]⟩
  · simp at h
  · simp at h

theorem aggOf_one {t : TypeId} (h : aggOf P t = some none) : ∀ w, (isAgg t).run P w = .ok false w := by
  unfold aggOf at h
  split at h
  · cases hi : P.info? t <;> simp [hi] at h
  · cases hi : P.info? t <;> simp [hi] at h
  · rename_i d h1 h2 hd
    intro w
    simp only [isAgg, Sem.run_bind, run_underlying hd, Result.andThen_ok]
    cases d <;> first | rfl | (exact absurd hd (h1 _)) | (exact absurd hd (h2 _ _))
  · simp at h

/-- Cells that lie from an address on, as the machine loads them. -/
theorem load_sound {t : TypeId} {b o : Nat} {cs : List LV} {vv : Nat → Value} {C : World → Prop} (hw : ∀ (j : Nat) (c : LV), cs[j]? = some c → ∀ w', C w' → w'.cell? ⟨b, o + j, none⟩ = some (vv j)) (hr : ∀ (j : Nat) (c : LV), cs[j]? = some c → VR w F c (vv j))
    (h : match aggOf P t with
      | some (some m) => m ≤ cs.length ∧ k (.agg (cs.take m))
      | some none => 0 < cs.length ∧ k (cs.getD 0 .any)
      | none => False) : ∃ v z, k z ∧ VR w F z v ∧ Gives P C (Instr.loadAt t (.pointer (some ⟨b, o, none⟩))) v := by
  split at h
  · rename_i m hm
    obtain ⟨hl, h⟩ := h
    obtain ⟨h1, h2⟩ := aggOf_agg hm
    refine ⟨.agg ((List.range m).map vv).toArray, _, h, .agg (by simp; omega) (fun i c v hc hv => ?_), fun w' hC => ?_⟩
    · simp only [List.getElem?_take] at hc
      split at hc
      · rename_i hi
        simp [hi] at hv
        subst hv
        exact hr i c hc
      · cases hc
    · have hcells : (loadCells ⟨b, o, none⟩ m).run P w' = .ok ((List.range m).map vv).toArray w' :=
        run_loadCells w' ⟨b, o, none⟩ m vv (fun j hj => by
          rw [add_none]
          have hjl : j < cs.length := by omega
          exact hw j cs[j] (List.getElem?_eq_getElem hjl) w' hC)
      simp [Instr.loadAt, Instr.sureAddr, loadVar, h1, h2, hcells]
  · rename_i hm
    obtain ⟨hl, h⟩ := h
    have h1 := aggOf_one hm
    have h0 : cs[0]? = some (cs.getD 0 .any) := by simp [List.getD, List.getElem?_eq_getElem hl]
    refine ⟨vv 0, _, h, hr 0 _ h0, fun w' hC => ?_⟩
    have := hw 0 _ h0 w' hC
    simp only [Nat.add_zero] at this
    simp [Instr.loadAt, Instr.sureAddr, loadVar, h1, this]
  · exact h.elim

theorem idx_sound {t : TypeId} {q : IntKind} {n : Int} {x : LV} {vx : Value} (hx : VR w F x vx) (h : idxK P t n k x) (C : World → Prop) : ∃ v z, k z ∧ VR w F z v ∧ Gives P C (Instr.indexAt t vx (.int q n)) v := by
  have hel : ∀ {s : Nat}, elOf P t = some s → ∃ e, P.underlying t = some (.slice e) ∧ ∀ w, (sizeOf e).run P w = .ok s w := fun {s} he => by
    unfold elOf at he
    split at he
    · rename_i e hd
      cases hi : P.info? e with
      | none => simp [hi] at he
      | some i => simp [hi] at he; exact ⟨e, hd, fun w => by simp [sizeOf, typeInfo, hi, he]⟩
    · cases he
  have har : ∀ {m s : Nat}, arrOf P t = some (m, s) → ∃ e, P.underlying t = some (.array m e) ∧ ∀ w, (sizeOf e).run P w = .ok s w := fun {m s} he => by
    unfold arrOf at he
    split at he
    · rename_i n' e hd
      cases hi : P.info? e with
      | none => simp [hi] at he
      | some i => simp [hi] at he; obtain ⟨rfl, rfl⟩ := he; exact ⟨e, hd, fun w => by simp [sizeOf, typeInfo, hi]⟩
    · cases he
  unfold idxK at h
  split at h
  · rename_i sz xs
    obtain ⟨he, h0, h1, h⟩ := h
    obtain ⟨e, hd, hs⟩ := hel he
    cases hx with
    | nil => simp at h1; omega
    | ro vv hF hb hc hz ho hw hr =>
      rename_i b o cap
      have hn : n.toNat < xs.length := by omega
      have hg : xs[n.toNat]? = some (xs.getD n.toNat .any) := by simp [List.getD, List.getElem?_eq_getElem hn]
      refine ⟨.pointer (some ⟨b, o + n.toNat * sz, none⟩), _, h, .adr (vv n.toNat) hF hb (fun j c hj => ho _ _ j c hg hj) (fun j c hj => ?_) (fun j c hj => hr _ _ j c hg hj), fun w' _ => ?_⟩
      · rw [Nat.add_assoc]; exact hw _ _ j c hg hj
      · simp [Instr.indexAt, asIntOf, run_underlying hd, h0, h1, hs, add_none]
  · rename_i B off len
    obtain ⟨he, h0, h1, h⟩ := h
    obtain ⟨e, hd, hs⟩ := hel he
    cases hx with
    | msl hc hm hr =>
      refine ⟨.pointer (some ⟨B.b, off * B.sz + n.toNat * B.sz, none⟩), _, h, ?_, fun w' _ => ?_⟩
      · have e : off * B.sz + n.toNat * B.sz = (off + n.toNat) * B.sz + 0 := by rw [Nat.add_mul, Nat.add_zero]
        rw [e]
        exact .ref
      · simp [Instr.indexAt, asIntOf, run_underlying hd, h0, h1, hs, add_none]
  · rename_i B i j
    split at h
    · rename_i len s ha
      obtain ⟨h0, h1, h⟩ := h
      obtain ⟨e, hd, hs⟩ := har ha
      cases hx with
      | ref =>
        refine ⟨.pointer (some ⟨B.b, i * B.sz + j + n.toNat * s, none⟩), _, h, ?_, fun w' _ => ?_⟩
        · rw [Nat.add_assoc]; exact .ref
        · simp [Instr.indexAt, Instr.sureAddr, asIntOf, run_underlying hd, h0, h1, hs, add_none]
    · exact h.elim
  · rename_i cs
    split at h
    · rename_i len s ha
      obtain ⟨h0, h1, h⟩ := h
      obtain ⟨e, hd, hs⟩ := har ha
      cases hx with
      | adr vv hF hb ho hw hr =>
        rename_i b o
        refine ⟨.pointer (some ⟨b, o + n.toNat * s, none⟩), _, h, .adr (fun j => vv (n.toNat * s + j)) hF hb (fun j c hj => ?_) (fun j c hj => ?_) (fun j c hj => ?_), fun w' _ => ?_⟩
        · rw [List.getElem?_drop] at hj; exact ho _ c hj
        · rw [List.getElem?_drop] at hj; rw [Nat.add_assoc]; exact hw _ c hj
        · rw [List.getElem?_drop] at hj; exact hr _ c hj
        · simp [Instr.indexAt, Instr.sureAddr, asIntOf, run_underlying hd, h0, h1, hs, add_none]
    · exact h.elim
  · exact h.elim

theorem len_sound {t : TypeId} {x : LV} {vx : Value} {ts : Array TypeId} {ty : TypeId} (ht : ts[0]? = some t) (hx : VR w F x vx) (h : lenK P t k x) (C : World → Prop) : ∃ v z, k z ∧ VR w F z v ∧ Gives P C (Builtin.len_ ts ty #[vx]) v := by
  have hel : (elOf P t).isSome = true → ∃ e, P.underlying t = some (.slice e) := fun he => by
    unfold elOf at he
    split at he
    · rename_i e hd; exact ⟨e, hd⟩
    · simp at he
  unfold lenK at h
  split at h
  · obtain ⟨he, h⟩ := h
    obtain ⟨e, hd⟩ := hel he
    cases hx with
    | nil => exact ⟨_, _, h, .val _, fun w' _ => by simp [Builtin.len_, ht, run_underlying hd, goInt]⟩
    | ro => exact ⟨_, _, h, .val _, fun w' _ => by simp [Builtin.len_, ht, run_underlying hd, goInt]⟩
  · obtain ⟨he, h⟩ := h
    obtain ⟨e, hd⟩ := hel he
    cases hx with
    | msl => exact ⟨_, _, h, .val _, fun w' _ => by simp [Builtin.len_, ht, run_underlying hd, goInt]⟩
  · obtain ⟨he, h⟩ := h
    obtain ⟨e, hd⟩ := hel he
    cases hx with
    | val => exact ⟨_, _, h, .val _, fun w' _ => by simp [Builtin.len_, ht, run_underlying hd, goInt]⟩
  · exact h.elim

theorem mx_sound {mx : Bool} {xs : List LV} {vs : Array Value} (hl : xs.length = vs.size) (hv : ∀ (i : Nat) (c : LV) (v : Value), xs[i]? = some c → vs[i]? = some v → VR w F c v) (h : mxK mx k xs) (C : World → Prop) (ts : Array TypeId) (ty : TypeId) :
    ∃ v z, k z ∧ VR w F z v ∧ Gives P C (if mx then Builtin.max_ ts ty vs else Builtin.min_ ts ty vs) v := by
  have hM : ∀ a b : Int, (if b > a then b else a) = max a b := fun a b => by simp only [Int.max_def]; split <;> split <;> omega
  have hm : ∀ a b : Int, (if b < a then b else a) = min a b := fun a b => by simp only [Int.min_def]; split <;> split <;> omega
  obtain ⟨l⟩ := vs
  simp at hl
  unfold mxK at h
  split at h
  · rename_i q a q' b
    obtain ⟨v0, v1, rfl⟩ : ∃ v0 v1, l = [v0, v1] := by
      match l, hl with
      | [v0, v1], _ => exact ⟨_, _, rfl⟩
    have h0 := hv 0 _ v0 rfl rfl
    have h1 := hv 1 _ v1 rfl rfl
    cases h0
    cases h1
    refine ⟨_, _, h, .val _, fun w' _ => ?_⟩
    cases mx <;> simp [Builtin.max_, Builtin.min_, Builtin.max2, Builtin.min2, hM, hm]
  · rename_i q a q' b q'' c
    obtain ⟨v0, v1, v2, rfl⟩ : ∃ v0 v1 v2, l = [v0, v1, v2] := by
      match l, hl with
      | [v0, v1, v2], _ => exact ⟨_, _, _, rfl⟩
    have h0 := hv 0 _ v0 rfl rfl
    have h1 := hv 1 _ v1 rfl rfl
    have h2 := hv 2 _ v2 rfl rfl
    cases h0
    cases h1
    cases h2
    refine ⟨_, _, h, .val _, fun w' _ => ?_⟩
    cases mx <;> simp [Builtin.max_, Builtin.min_, Builtin.max2, Builtin.min2, hM, hm]
  · rename_i q a q' b q'' c q3 d
    obtain ⟨v0, v1, v2, v3, rfl⟩ : ∃ v0 v1 v2 v3, l = [v0, v1, v2, v3] := by
      match l, hl with
      | [v0, v1, v2, v3], _ => exact ⟨_, _, _, _, rfl⟩
    have h0 := hv 0 _ v0 rfl rfl
    have h1 := hv 1 _ v1 rfl rfl
    have h2 := hv 2 _ v2 rfl rfl
    have h3 := hv 3 _ v3 rfl rfl
    cases h0
    cases h1
    cases h2
    cases h3
    refine ⟨_, _, h, .val _, fun w' _ => ?_⟩
    cases mx <;> simp [Builtin.max_, Builtin.min_, Builtin.max2, Builtin.min2, hM, hm]
  · exact h.elim
end
end Go.Ls
