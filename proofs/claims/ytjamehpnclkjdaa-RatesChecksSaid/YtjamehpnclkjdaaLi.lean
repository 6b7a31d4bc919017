/- A small program logic over the kit's machine, part i: one operation, and a row of operations. It bears no statement of its own. -/
import Derived.Test.YtjamehpnclkjdaaLh
namespace Go.Ls
open Go
set_option linter.unusedVariables false
set_option linter.unusedSimpArgs false

section
variable {P : Program} {n : Nat} {w0 : World} {D0 G : Nat → Prop} {fr : Fr} {σ : Heap} {a : Act} {w : World} {M : Nat → Prop} {k : LV → Heap → Prop}

theorem value_vr {B : Blk} {w : World} {F : Nat → Prop} {b : Nat} (h : B.b = b) : VR w F (.ref B 0 0) (.pointer (some ⟨b, 0, none⟩)) := by
  have e : (⟨b, 0, none⟩ : Addr) = ⟨B.b, 0 * B.sz + 0, none⟩ := by rw [Nat.zero_mul, h]
  rw [e]
  exact .ref

theorem big_le : 16777216 ≤ maxLen := by unfold maxLen; omega

theorem run_buildSlice_of {P : Program} {w : World} {t e : TypeId} {i : TypeInfo} {zv : Value} {sz len : Nat} {parts : Array (Nat × Value)} {cs' : Array Value} (hd : P.underlying t = some (.slice e)) (hi : P.info? e = some i) (his : i.size = sz) (hz : i.zero = some zv) (hbig : len * sz ≤ 16777216) (hp : 0 < sz)
    (hf : Instr.fill (fun i => some (i * sz, sz)) (madeCells zv.cells (len * sz)) parts.toList = some cs') : (Instr.buildSlice t len parts).run P w = .ok (.slice (some ⟨w.heap.size, 0, none⟩) len len) (w.alloc (.cells cs' e)) := by
  have hsz : ∀ w, (sizeOf e).run P w = .ok sz w := fun w => by simp [sizeOf, typeInfo, hi, his]
  have hzv : ∀ w, (zeroValue e).run P w = .ok zv w := fun w => by simp [zeroValue, typeInfo, hi, hz]
  have hb : ¬ (len * sz > 2 ^ 24) := by simp only [gt_iff_lt, Nat.not_lt]; exact hbig
  by_cases h0 : len * sz = 0
  · rw [h0] at hf
    have hm0 : madeCells zv.cells 0 = #[] := by simp [madeCells]
    rw [hm0] at hf
    have hr0 : (Array.range 0).map (fun _ => (default : Value)) = #[] := by
      apply Array.eq_empty_of_size_eq_zero
      simp
    simp [Instr.buildSlice, run_underlying hd, hsz, h0, hr0, hf, newRow]
  · unfold madeCells at hf
    simp only [Instr.buildSlice, Sem.run_bind, run_underlying hd, Result.andThen_ok, hsz, if_neg hb, Sem.run_pure, if_neg h0, hzv]
    simp only [hf, newRow, Sem.run_bind, run_newObj, Result.andThen_ok, Sem.run_pure]
    rfl

theorem av_sound (hR : Rel n w0 D0 G fr σ a w) {o : Oper} (h : av P M σ (ev fr) k o.op) {K : Act → World → Prop} {Q : Exit → Act → World → Prop}
    (hK : ∀ x σ' v w', k x σ' → Next w w' M G σ σ' x v → K (a.put o.dst v) w') : o.wp P a w K Q := by
  have hG : ∀ b, G b → b < w.heap.size := fun b h => hR.lt h
  have val : ∀ {s : Sem Value} {v : Value} {w' : World}, (execOp a.eval o = do pure (.value (← s))) → s.run P w = .ok v w' → (∃ x σ', k x σ' ∧ Next w w' M G σ σ' x v) → o.wp P a w K Q := by
    intro s v w' he hr ⟨x, σ', hk, hn⟩
    unfold Oper.wp
    rw [he]
    simp only [Sem.run_bind, hr, Result.andThen_ok, Sem.run_pure, Oper.upon]
    exact hK x σ' v w' hk hn
  obtain ⟨dst, op, ty, pos, after, guard⟩ := o
  simp only at h hK
  cases op <;> simp only [av] at h <;> try exact h.elim
  case alloc t =>
    split at h
    · rename_i z hz
      unfold zeroEl at hz
      cases hi : P.info? t with
      | none => simp [hi] at hz
      | some i =>
        cases hzv : i.zero with
        | none => simp [hi, hzv] at hz
        | some zv =>
          simp only [hi, hzv, Option.bind_some] at hz
          split at hz
          · rename_i hc
            cases hz
            obtain ⟨hc1, hc2⟩ := hc
            have hzl : (zeroLV zv).cells.length = zv.cells.size := by rw [zeroLV_cells]; simp
            have hat : CellsAt w (Fo σ G) (zeroLV zv).cells.length [zeroLV zv] zv.cells := by
              refine ⟨by simp [hzl], fun i x hx => ?_, fun i x j c hx hj => ?_⟩
              · have := List.mem_of_getElem? hx
                simp at this
                subst this
                rfl
              · cases i with
                | zero =>
                  simp at hx
                  subst hx
                  rw [Nat.zero_mul, Nat.zero_add]
                  exact zeroLV_cell hc2 hj
                | succ i => simp at hx
            have hn := alloc_next (M := M) (w' := w.alloc (.cells zv.cells t)) (B := ⟨w.heap.size, (zeroLV zv).cells.length, (zeroLV zv).cells.length⟩) (e := t) hR.holds hG rfl rfl rfl rfl rfl hzl hat
            exact val (s := Instr.alloc t true (.tuple #[])) (v := .pointer (some ⟨w.heap.size, 0, none⟩)) (w' := w.alloc (.cells zv.cells t)) rfl (by simp [Instr.alloc, zeroValue, typeInfo, hi, hzv, newVar, newRow])
              ⟨_, _, h w.heap.size hn.2.2.2, ⟨hn.1, value_vr rfl, hn.2.1, hn.2.2.1⟩⟩
          · cases hz
    · exact h.elim
  case box t x =>
    obtain ⟨h1, h⟩ := h
    have hx := (hR.evr x).cellsAre h1
    have hat : CellsAt w (Fo σ G) (ev fr x).cells.length [ev fr x] (a.eval x).cells := by
      refine ⟨by simp [hx.1], fun i y hy => ?_, fun i y j c hy hj => ?_⟩
      · have := List.mem_of_getElem? hy
        simp at this
        subst this
        rfl
      · cases i with
        | zero =>
          simp at hy
          subst hy
          rw [Nat.zero_mul, Nat.zero_add]
          exact ⟨hx.2.1 c (List.mem_of_getElem? hj), hx.2.2 j c hj⟩
        | succ i => simp at hy
    have hn := alloc_next (M := M) (w' := w.alloc (.cells (a.eval x).cells t)) (B := ⟨w.heap.size, (ev fr x).cells.length, (ev fr x).cells.length⟩) (e := t) hR.holds hG rfl rfl rfl rfl rfl hx.1 hat
    exact val (s := Instr.box t (a.eval x)) (v := .pointer (some ⟨w.heap.size, 0, none⟩)) (w' := w.alloc (.cells (a.eval x).cells t)) rfl (by simp [Instr.box, newVar, newRow])
      ⟨_, _, h w.heap.size hn.2.2.2, ⟨hn.1, value_vr rfl, hn.2.1, hn.2.2.1⟩⟩
  case buildSlice t len parts =>
    split at h
    · rename_i z sz by_ hty
      obtain ⟨e, i, zv, hd, hi, hz, hzs, his, hp, hby, rfl, hz1⟩ := slTy_some hty
      obtain ⟨hbig, h⟩ := h
      obtain ⟨es', cs', hk, hf, hat, hs1, hs2⟩ := fillE_sound (w := w) (F := Fo σ G) (parts.toList.map fun p => (p.1, ev fr p.2)) (parts.toList.map fun p => (p.1, a.eval p.2)) _ _ (by simp) (fun i p q h1 h2 => by
        rw [List.getElem?_map] at h1 h2
        cases hx : parts.toList[i]? with
        | none => rw [hx] at h1; cases h1
        | some x =>
          rw [hx] at h1 h2
          cases h1
          cases h2
          exact ⟨rfl, hR.evr x.2⟩) (madeCells_at hzs hp hz1 len) h
      have hsize : cs'.size = len * sz := by rw [hs1]; simp [madeCells]
      have hesl : es'.length = len := by rw [hs2]; simp
      have hlen : len ≤ 16777216 := Nat.le_trans (Nat.le_mul_of_pos_right len hp) hbig
      have hn := alloc_next (M := M) (w' := w.alloc (.cells cs' e)) (B := ⟨w.heap.size, sz, len * sz⟩) (e := e) hR.holds hG rfl rfl rfl rfl rfl hsize.symm hat
      have hexec : execOp a.eval { dst := dst, op := Op.buildSlice t len parts, type := ty, pos := pos, after := after, guard := guard } = (do pure (.value (← Instr.buildSlice t len (parts.map fun p => (p.1, a.eval p.2))))) := by simp only [execOp]
      have hrun : (Instr.buildSlice t len (parts.map fun p => (p.1, a.eval p.2))).run P w = .ok (.slice (some ⟨w.heap.size, 0, none⟩) len len) (w.alloc (.cells cs' e)) := by
        have hfl : (parts.map fun (x : Nat × Operand) => (x.1, a.eval x.2)).toList = parts.toList.map fun p => (p.1, a.eval p.2) := Array.toList_map
        exact run_buildSlice_of hd hi his hz hbig hp (by rw [hfl]; exact hf)
      have hvr : VR (w.alloc (.cells cs' e)) (Fo ((⟨w.heap.size, sz, len * sz⟩, es') :: σ) G) (.msl ⟨w.heap.size, sz, len * sz⟩ 0 len) (.slice (some ⟨w.heap.size, 0, none⟩) len len) := by
        have e0 : (⟨w.heap.size, 0, none⟩ : Addr) = ⟨w.heap.size, 0 * sz, none⟩ := by rw [Nat.zero_mul]
        rw [e0]
        exact .msl (Nat.le_refl _) (Nat.le_trans hlen big_le) (by simp)
      refine val hexec hrun ⟨_, _, hk w.heap.size hn.2.2.2, ⟨hn.1, hvr, hn.2.1, hn.2.2.1⟩⟩
    · exact h.elim
  case store t ad x =>
    have ha := hR.evr ad
    split at h
    · rename_i B i j hae
      rw [hae] at ha
      generalize hv : a.eval ad = va at ha
      cases ha
      obtain ⟨hM, h⟩ := h
      split at h
      · rename_i xs hl
        obtain ⟨h1, h2, h3, h4, h5, h⟩ := h
        obtain ⟨w', hrun, hn⟩ := store_sound hR hM hl h1 h2 h3 h4 h5 (hR.evr x)
        unfold Oper.wp
        have he : execOp a.eval { dst := dst, op := Op.store t ad x, type := ty, pos := pos, after := after, guard := guard } = (do Instr.storeAt t (a.eval ad) (a.eval x); pure .skip) := rfl
        rw [he, hv]
        simp only [Sem.run_bind, hrun, Result.andThen_ok, Sem.run_pure, Oper.upon]
        exact hK _ _ undef w' h hn
      · exact h.elim
    · exact h.elim
  case makeSlice t l c =>
    split at h
    · rename_i z sz by_ hty
      obtain ⟨e, i, zv, hd, hi, hz, hzs, his, hp, hby, rfl, hz1⟩ := slTy_some hty
      have hl := hR.evr l
      have hc := hR.evr c
      split at h
      · rename_i ql nl hle
        rw [hle] at hl
        generalize hvl : a.eval l = vl at hl
        cases hl
        split at h
        · rename_i qc nc hce
          rw [hce] at hc
          generalize hvc : a.eval c = vc at hc
          cases hc
          obtain ⟨h0, h1, h2, h3, h⟩ := h
          have h63 : nc ≤ 9223372036854775807 := by
            have : (maxLen : Int) ≤ 9223372036854775807 := by decide
            omega
          have hrun := run_make (P := P) w t e i zv hd hi hz ql qc nl nc h0 h1 (by rw [hby]; exact h3) h63
          rw [his] at hrun
          have hat := madeCells_at (w := w) (F := Fo σ G) hzs hp hz1 nc.toNat
          have hsize : (madeCells zv.cells (nc.toNat * sz)).size = nc.toNat * sz := size_madeCells _ _
          have hn := alloc_next (M := M) (w' := w.alloc (.cells (madeCells zv.cells (nc.toNat * sz)) e)) (B := ⟨w.heap.size, sz, nc.toNat * sz⟩) (e := e) hR.holds hG rfl rfl rfl rfl rfl hsize.symm hat
          refine val (s := Instr.makeSlice t (a.eval l) (a.eval c)) (v := _) (w' := _) rfl (by rw [hvl, hvc]; exact hrun) ⟨_, _, h w.heap.size hn.2.2.2, ⟨hn.1, ?_, hn.2.1, hn.2.2.1⟩⟩
          have e0 : (⟨w.heap.size, 0, none⟩ : Addr) = ⟨w.heap.size, 0 * sz, none⟩ := by rw [Nat.zero_mul]
          rw [e0]
          exact .msl (by omega) (by omega) (by simp)
        · exact h.elim
      · exact h.elim
    · exact h.elim
  case call cl =>
    obtain ⟨callee, args, ats⟩ := cl
    cases callee with
    | invoke r m => simp only [av] at h
    | builtin b =>
      cases b <;> simp only [av] at h <;> try exact h.elim
      split at h
      · rename_i s x hargs
        split at h
        · rename_i t t' hats
          obtain ⟨rfl, h⟩ := h
          unfold appK at h
          split at h
          · rename_i z sz by_ hty
            obtain ⟨σ0, xs, ys, τ, τ', hhv, hown, hsrc, hsub, hMM, hlen, hbytes, h⟩ := h
            have hR0 := hR.hv hhv
            obtain ⟨v', w', σ', x', hrun, ho', hn0⟩ := append_sound (M := M) (ty := ty) hR0 hty (hR0.evr s) (hR0.evr x) hown hsrc hsub hMM hlen hbytes
            have hn : Next w w' M G σ σ' x' v' := ⟨hn0.holds, hn0.vr, hn0.step.left fun b hb => hhv.1 b hb, hn0.still⟩
            have ea : args = #[s, x] := by
              obtain ⟨l⟩ := args
              simp at hargs
              rw [hargs]
            have et : ats = #[t, t] := by
              obtain ⟨l⟩ := ats
              simp at hats
              rw [hats]
            subst ea
            subst et
            refine val (s := Builtin.append_ #[t, t] ty #[a.eval s, a.eval x]) (v := v') (w' := w') ?_ hrun ⟨x', σ', h x' σ' ho' hn0.holds.2, hn⟩
            simp [execOp, resolve, invoke, builtin]
          · exact h.elim
        · exact h.elim
      · exact h.elim
    | value f =>
      simp only [av] at h
      have hf := hR.evr f
      split at h
      · rename_i g cap hfe
        rw [hfe] at hf
        generalize hvf : a.eval f = vf at hf
        cases hf with
        | fn hl hc =>
          rename_i vs
          have hargs : (args.toList.map (ev fr) ++ cap).length = (args.map a.eval ++ vs).size := by simp [hl]
          have hall : ∀ (i : Nat) (c : LV) (v : Value), (args.toList.map (ev fr) ++ cap)[i]? = some c → (args.map a.eval ++ vs)[i]? = some v → VR w (Fo σ G) c v := by
            intro i c v h1 h2
            rw [List.getElem?_append] at h1
            rw [Array.getElem?_append] at h2
            have hsz : (args.toList.map (ev fr)).length = (args.map a.eval).size := by simp
            rw [hsz] at h1
            split at h1
            · rename_i hi
              rw [if_pos hi] at h2
              exact hR.args args i c v h1 h2
            · rename_i hi
              rw [if_neg hi] at h2
              exact hc _ c v h1 h2
          obtain ⟨hgo, hcall⟩ := call_sound (M := M) hR hargs hall h
          unfold isGo at hgo
          split at hgo
          · rename_i fn hfn
            simp only [Bool.and_eq_true, bne_iff_ne, ne_eq] at hgo
            obtain ⟨body, hbody⟩ := Option.isSome_iff_exists.1 hgo.2
            unfold Oper.wp
            have hrun : (execOp a.eval { dst := dst, op := Op.call { callee := .value f, args := args, argTypes := ats }, type := ty, pos := pos, after := after, guard := guard }).run P w = .ok (.enter g (args.map a.eval ++ vs)) w := by
              simp [execOp, resolve, Deferred.ofValue, hvf, invoke, callFunc, hfn, hgo.1, hbody]
            rw [hrun]
            simp only [Oper.upon]
            refine hcall.mono fun e w' he => ?_
            obtain ⟨v, x, σ', rfl, hk, hn⟩ := he
            exact hK x σ' v w' hk hn
          · cases hgo
      · exact h.elim

end
end Go.Ls
