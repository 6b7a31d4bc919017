/- A small program logic over the kit's machine, part d: what the conditions of part b are worth, continued. It bears no statement of its own. -/
import Derived.Test.YtjamehpnclkjdaaLc
import Derived.Laws.Tables
namespace Go.Ls
open Go
set_option linter.unusedVariables false
set_option linter.unusedSimpArgs false

theorem foldl_set : ∀ (l : List Value) (off s : Nat) (cells : Array Value),
    ((l.zipIdx s).foldl (fun cs (p : Value × Nat) => cs.setIfInBounds (off + p.2) p.1) cells).size = cells.size ∧
    ∀ i, ((l.zipIdx s).foldl (fun cs (p : Value × Nat) => cs.setIfInBounds (off + p.2) p.1) cells)[i]? = if off + s ≤ i ∧ i < off + s + l.length ∧ i < cells.size then l[i - (off + s)]? else cells[i]?
  | [], off, s, cells => ⟨rfl, fun i => by rw [if_neg (by simp; omega)]; rfl⟩
  | c :: l, off, s, cells => by
    have ih := foldl_set l off (s + 1) (cells.setIfInBounds (off + s) c)
    simp only [List.zipIdx_cons, List.foldl_cons]
    refine ⟨by rw [ih.1]; simp, fun i => ?_⟩
    rw [ih.2 i]
    simp only [Array.size_setIfInBounds, List.length_cons]
    by_cases h1 : off + (s + 1) ≤ i ∧ i < off + (s + 1) + l.length ∧ i < cells.size
    · rw [if_pos h1, if_pos (by omega)]
      have : i - (off + s) = (i - (off + (s + 1))) + 1 := by omega
      rw [this, List.getElem?_cons_succ]
    · rw [if_neg h1]
      by_cases h2 : i = off + s
      · subst h2
        by_cases h3 : off + s < cells.size
        · rw [if_pos (by omega)]
          simp [h3]
        · rw [if_neg (by omega)]
          simp [h3]
      · rw [if_neg (by omega)]
        simp [Ne.symm h2]

section
variable {P : Program} {w : World} {F : Nat → Prop}

/-- Cells told one by one. -/
def CellsAre (w : World) (F : Nat → Prop) (cs : List LV) (vs : Array Value) : Prop :=
  cs.length = vs.size ∧ (∀ c ∈ cs, c.one = true) ∧ ∀ (i : Nat) (c : LV), cs[i]? = some c → ∃ u, vs[i]? = some u ∧ VR w F c u

theorem VR.cellsAre {x : LV} {v : Value} (h : VR w F x v) (ho : x.cells.all LV.one = true) : CellsAre w F x.cells v.cells := by
  have ho' : ∀ (j : Nat) (c : LV), x.cells[j]? = some c → c.one = true := fun j c hc => List.all_eq_true.1 ho c (List.mem_of_getElem? hc)
  exact ⟨(h.cells ho').1, List.all_eq_true.1 ho, (h.cells ho').2⟩

theorem CellsAre.vr {cs : List LV} {vs : Array Value} (h : CellsAre w F cs vs) : VR w F (.agg cs) (.agg vs) :=
  .agg h.1 fun i c v hc hv => by
    obtain ⟨u, hu, hr⟩ := h.2.2 i c hc
    rw [hu] at hv
    cases hv
    exact hr

theorem fill_sound {place : Nat → Option (Nat × Nat)} {k : List LV → Prop} : ∀ (ps : List (Nat × LV)) (qs : List (Nat × Value)) (cs : List LV) (vs : Array Value),
    ps.length = qs.length → (∀ (i : Nat) (p : Nat × LV) (q : Nat × Value), ps[i]? = some p → qs[i]? = some q → p.1 = q.1 ∧ VR w F p.2 q.2) → CellsAre w F cs vs → fillL place k cs ps →
    ∃ cs' vs', k cs' ∧ Instr.fill place vs qs = some vs' ∧ CellsAre w F cs' vs'
  | [], [], cs, vs, _, _, hc, h => ⟨cs, vs, h, rfl, hc⟩
  | [], _ :: _, _, _, hl, _, _, _ => by simp at hl
  | _ :: _, [], _, _, hl, _, _, _ => by simp at hl
  | (i, x) :: ps, (i', v) :: qs, cs, vs, hl, hpq, hc, h => by
    have h0 := hpq 0 _ _ rfl rfl
    obtain ⟨h0, hv⟩ := h0
    simp only at h0 hv
    subst h0
    unfold fillL at h
    cases hp : place i with
    | none => rw [hp] at h; exact h.elim
    | some os =>
      obtain ⟨off, size⟩ := os
      rw [hp] at h
      obtain ⟨h1, h2, h3, h⟩ := h
      have hx := hv.cellsAre h3
      have hsz : v.cells.size = size := by rw [← hx.1]; exact h1
      have hvl : v.cells.toList.length = size := by simpa using hsz
      have key := foldl_set v.cells.toList off 0 vs
      have hfold : (v.cells.zipIdx.foldl (fun cs (p : Value × Nat) => cs.setIfInBounds (off + p.2) p.1) vs) = ((v.cells.toList.zipIdx 0).foldl (fun cs (p : Value × Nat) => cs.setIfInBounds (off + p.2) p.1) vs) := by
        rw [← Array.foldl_toList, Array.toList_zipIdx]
      have hnew : CellsAre w F (cs.take off ++ x.cells ++ cs.drop (off + size)) (v.cells.zipIdx.foldl (fun cs (p : Value × Nat) => cs.setIfInBounds (off + p.2) p.1) vs) := by
        rw [hfold]
        refine ⟨?_, ?_, ?_⟩
        · rw [key.1, ← hc.1]
          simp only [List.length_append, List.length_take, List.length_drop, h1]
          omega
        · intro c hm
          simp only [List.mem_append] at hm
          rcases hm with (hm | hm) | hm
          · exact hc.2.1 c (List.mem_of_mem_take hm)
          · exact hx.2.1 c hm
          · exact hc.2.1 c (List.mem_of_mem_drop hm)
        · intro j c hj
          rw [key.2 j]
          have hvs := hc.1
          by_cases hj1 : j < off
          · rw [if_neg (by omega)]
            refine hc.2.2 j c ?_
            rw [List.append_assoc, List.getElem?_append_left (by simp; omega), List.getElem?_take, if_pos hj1] at hj
            exact hj
          · by_cases hj2 : j < off + size
            · rw [if_pos (by omega)]
              have hj' : x.cells[j - off]? = some c := by
                rw [List.append_assoc, List.getElem?_append_right (by simp; omega), List.length_take, List.getElem?_append_left (by omega)] at hj
                rw [← hj]; congr 1; omega
              obtain ⟨u, hu, hr⟩ := hx.2.2 (j - off) c hj'
              refine ⟨u, ?_, hr⟩
              rw [Array.getElem?_toList]
              simpa using hu
            · rw [if_neg (by omega)]
              refine hc.2.2 j c ?_
              rw [List.getElem?_append_right (by simp; omega), List.getElem?_drop] at hj
              rw [← hj]; congr 1; simp; omega
      obtain ⟨cs', vs', hk, hf, hcc⟩ := fill_sound ps qs _ _ (by simpa using hl) (fun i p q hp hq => hpq (i + 1) p q (by simpa using hp) (by simpa using hq)) hnew h
      refine ⟨cs', vs', hk, ?_, hcc⟩
      unfold Instr.fill
      have hno : ¬ (v.cells.size ≠ size ∨ off + v.cells.size > vs.size) := by have := hc.1; omega
      simp only [hp]
      rw [if_neg (by simpa using hno)]
      exact hf

theorem slc_sound {t : TypeId} {lo hi : Option LV} {plo phi : Option Value} {x : LV} {vx : Value} {k : LV → Prop} (hx : VR w F x vx) (hlo : ∀ l, lo = some l → ∃ v, plo = some v ∧ VR w F l v) (hlo' : lo = none → plo = none) (hhi : ∀ l, hi = some l → ∃ v, phi = some v ∧ VR w F l v) (hhi' : hi = none → phi = none)
    (h : slcK P t lo hi k x) (C : World → Prop) : ∃ v z, k z ∧ VR w F z v ∧ Gives P C (Instr.sliceAt t vx plo phi none) v := by
  have hel : ∀ {s : Nat}, elOf P t = some s → ∃ e, P.underlying t = some (.slice e) ∧ ∀ w, (sizeOf e).run P w = .ok s w := fun {s} he => by
    unfold elOf at he
    split at he
    · rename_i e hd
      cases hi : P.info? e with
      | none => simp [hi] at he
      | some i => simp [hi] at he; exact ⟨e, hd, fun w => by simp [sizeOf, typeInfo, hi, he]⟩
    · cases he
  have bounds : ∀ {len cap : Nat} {k' : Nat → Nat → Prop}, len ≤ cap → boundsK len lo hi k' → ∃ l h, l ≤ h ∧ h ≤ len ∧ k' l h ∧ ∀ w, (Instr.sliceBounds true len cap plo phi none).run P w = .ok (l, h, cap) w := by
    intro len cap k' hlc hb
    unfold boundsK at hb
    split at hb
    · rw [hlo' rfl, hhi' rfl]
      exact ⟨0, len, by omega, by omega, hb, fun w => by simp [Instr.sliceBounds]⟩
    · rename_i q l
      obtain ⟨h0, h1, hb⟩ := hb
      obtain ⟨v, rfl, hv⟩ := hlo _ rfl
      cases hv
      rw [hhi' rfl]
      exact ⟨l.toNat, len, by omega, by omega, hb, fun w => by simp [Instr.sliceBounds, Instr.sliceBound, asIntOf, h0, h1]⟩
    · rename_i q hh
      obtain ⟨h0, h1, hb⟩ := hb
      obtain ⟨v, rfl, hv⟩ := hhi _ rfl
      cases hv
      rw [hlo' rfl]
      exact ⟨0, hh.toNat, by omega, by omega, hb, fun w => by have : hh ≤ cap := by omega
                                                              simp [Instr.sliceBounds, Instr.sliceBound, asIntOf, h0, this]⟩
    · rename_i q l q' hh
      obtain ⟨h0, h1, h2, hb⟩ := hb
      obtain ⟨v, rfl, hv⟩ := hlo _ rfl
      cases hv
      obtain ⟨v', rfl, hv'⟩ := hhi _ rfl
      cases hv'
      exact ⟨l.toNat, hh.toNat, by omega, by omega, hb, fun w => by have : hh ≤ cap := by omega
                                                                    have h3 : 0 ≤ hh := by omega
                                                                    have h4 : l ≤ (hh.toNat : Int) := by omega
                                                                    simp [Instr.sliceBounds, Instr.sliceBound, asIntOf, h0, this, h3]
                                                                    intro hlt
                                                                    omega⟩
    · exact hb.elim
  unfold slcK at h
  split at h
  · rename_i sz xs
    obtain ⟨he, h⟩ := h
    obtain ⟨e, hd, hs⟩ := hel he
    cases hx with
    | nil =>
      rename_i cap a
      obtain ⟨l, hh, h1, h2, hk, hb⟩ := bounds (cap := cap) (by simp) h
      have hl0 : l = 0 := by simp at h2; omega
      have hh0 : hh = 0 := by simp at h2; omega
      subst hl0
      subst hh0
      have hb' : ∀ w, (Instr.sliceBounds true 0 cap plo phi none).run P w = .ok (0, 0, cap) w := hb
      refine ⟨.slice (if cap = 0 then a else a.map (·.add (0 * sz))) 0 (cap - 0), _, hk, ?_, fun w' _ => by simp [Instr.sliceAt, Instr.slice, run_underlying hd, hb', hs]⟩
      exact .nil
    | ro vv hF hbb hc hz ho hw hr =>
      rename_i b o cap
      obtain ⟨l, hh, h1, h2, hk, hb⟩ := bounds (cap := cap) hc h
      refine ⟨.slice (if cap = l then some ⟨b, o, none⟩ else some ⟨b, o + l * sz, none⟩) (hh - l) (cap - l), _, hk, ?_, fun w' _ => by simp [Instr.sliceAt, Instr.slice, run_underlying hd, hb, hs, add_none]⟩
      by_cases hlh : l = hh
      · subst hlh
        have : (xs.take l).drop l = [] := by apply List.drop_eq_nil_of_le; simp; omega
        rw [this, Nat.sub_self]
        exact .nil
      · rw [if_neg (by omega)]
        have hlen : ((xs.take hh).drop l).length = hh - l := by simp; omega
        rw [← hlen]
        have hget : ∀ {i : Nat} {x : LV}, ((xs.take hh).drop l)[i]? = some x → xs[l + i]? = some x := by
          intro i x hi
          rw [List.getElem?_drop, List.getElem?_take] at hi
          split at hi
          · exact hi
          · cases hi
        refine .ro (fun i j => vv (l + i) j) hF hbb (by rw [hlen]; omega) (fun i x hi => hz _ x (hget hi)) (fun i x j c hi hj => ho _ x j c (hget hi) hj) (fun i x j c hi hj => ?_) (fun i x j c hi hj => hr _ x j c (hget hi) hj)
        have := hw _ x j c (hget hi) hj
        rw [Nat.add_mul] at this
        rw [← this]
        congr 2
        omega
  · rename_i B off len
    obtain ⟨he, h⟩ := h
    obtain ⟨e, hd, hs⟩ := hel he
    cases hx with
    | msl hc hm hr =>
      rename_i cap
      obtain ⟨l, hh, h1, h2, hk, hb⟩ := bounds (cap := cap) hc h
      have hrun : ∀ w', (Instr.sliceAt t (.slice (some ⟨B.b, off * B.sz, none⟩) len cap) plo phi none).run P w' = .ok (.slice (if cap = l then some ⟨B.b, off * B.sz, none⟩ else some ⟨B.b, off * B.sz + l * B.sz, none⟩) (hh - l) (cap - l)) w' :=
        fun w' => by simp [Instr.sliceAt, Instr.slice, run_underlying hd, hb, hs, add_none]
      by_cases hlh : l < hh ∨ l = 0
      · refine ⟨_, _, hk.1 hlh, ?_, fun w' _ => hrun w'⟩
        have ha : (if cap = l then some (⟨B.b, off * B.sz, none⟩ : Addr) else some ⟨B.b, off * B.sz + l * B.sz, none⟩) = some ⟨B.b, (off + l) * B.sz, none⟩ := by
          split
          · have : l = 0 := by omega
            subst this
            simp
          · rw [Nat.add_mul]
        rw [ha]
        refine .msl (by omega) (by omega) ?_
        rw [← hr]
        congr 1
        omega
      · have e1 : l = hh := by omega
        refine ⟨_, _, hk.2 e1 (by omega), ?_, fun w' _ => hrun w'⟩
        subst e1
        rw [Nat.sub_self]
        exact .nil
  · obtain ⟨he, h⟩ := h
    obtain ⟨sz, he⟩ := Option.isSome_iff_exists.1 he
    obtain ⟨e, hd, hs⟩ := hel he
    cases hx with
    | val =>
      obtain ⟨l, hh, h1, h2, hk, hb⟩ := bounds (cap := 0) (Nat.le_refl _) h
      have hl0 : l = 0 := by omega
      have hh0 : hh = 0 := by omega
      subst hl0
      subst hh0
      exact ⟨.slice none 0 0, _, hk, .val _, fun w' _ => by simp [Instr.sliceAt, Instr.slice, run_underlying hd, hb, hs]⟩
  · exact h.elim
end

section
variable {P : Program} {n : Nat} {w0 : World} {D0 G : Nat → Prop} {fr : Fr} {σ : Heap} {a : Act} {w : World} {M : Nat → Prop} {k : LV → Prop}

def isRead : Op → Bool
  | .load .. => true
  | _ => false

theorem args_len (xs : Array Operand) : (xs.toList.map (ev fr)).length = (xs.map a.eval).size := by simp

theorem Rel.args (hR : Rel n w0 D0 G fr σ a w) (xs : Array Operand) (i : Nat) (c : LV) (v : Value) (h1 : (xs.toList.map (ev fr))[i]? = some c) (h2 : (xs.map a.eval)[i]? = some v) : VR w (fun b => dom σ b ∨ G b) c v := by
  rw [List.getElem?_map] at h1
  rw [Array.getElem?_map] at h2
  cases hx : xs[i]? with
  | none => rw [hx] at h2; cases h2
  | some x =>
    rw [hx] at h2
    rw [Array.getElem?_toList, hx] at h1
    simp at h1 h2
    subst h1
    subst h2
    exact hR.evr x

theorem fill_mono {f g : Nat → Option (Nat × Nat)} (hfg : ∀ i p, f i = some p → g i = some p) : ∀ (parts : List (Nat × Value)) (cs vs : Array Value), Instr.fill f cs parts = some vs → Instr.fill g cs parts = some vs
  | [], cs, vs, h => h
  | (i, x) :: rest, cs, vs, h => by
    unfold Instr.fill at h ⊢
    cases hf : f i with
    | none => simp [hf] at h
    | some p =>
      rw [hfg i p hf]
      rw [hf] at h
      simp only at h ⊢
      split at h
      · cases h
      · rename_i hc
        rw [if_neg hc]
        exact fill_mono hfg rest _ _ h
theorem built_of {t : TypeId} {ps : List (Nat × Nat)} {zs : List Value} {parts : List (Nat × Value)} {vs : Array Value} (hp : placesOf P t = some ps) (hz : zeroOf P t = some zs) (h : Instr.fill (fun i => ps[i]?) zs.toArray parts = some vs) : P.built t parts = some vs := by
  unfold placesOf at hp
  unfold zeroOf at hz
  cases hi : P.info? t with
  | none => simp [hi] at hz
  | some it =>
    cases hz0 : it.zero with
    | none => simp [hi, hz0] at hz
    | some z =>
      simp [hi, hz0] at hz
      split at hp
      · rename_i fs hd
        unfold Program.built
        have e1 : (fun i : Nat => ps.toArray[i]?) = fun i => ps[i]? := by funext i; simp
        have e2 : z.cells = zs.toArray := by rw [← hz]
        simp only [hi, hd, hz0, hp, e1, e2]
        exact h
      · rename_i n e hd
        cases he : P.info? e with
        | none => simp [he] at hp
        | some ie =>
          simp [he] at hp
          have e2 : z.cells = zs.toArray := by rw [← hz]
          simp only [Program.built, hi, hd, hz0, he, e2]
          refine fill_mono (fun i p hi => ?_) _ _ _ h
          rw [← hp, List.getElem?_map] at hi
          cases hr : (List.range n)[i]? with
          | none => rw [hr] at hi; cases hi
          | some j =>
            rw [hr] at hi
            have := (List.getElem?_eq_some_iff.1 hr).2
            simp at this
            subst this
            exact hi
      · cases hp

/-- A computing or reading operation leaves what its condition says, in every world that reads alike. -/
theorem pv_sound (hR : Rel n w0 D0 G fr σ a w) (hM : ∀ b, M b → dom σ b) {o : Oper} (h : pv P M σ (ev fr) k o.op) (C : World → Prop) (hC : isRead o.op = true → ∀ w', C w' → Still M w w') :
    ∃ v x, k x ∧ VR w (fun b => dom σ b ∨ G b) x v ∧ ∀ w', C w' → (execOp a.eval o).run P w' = .ok (.value v) w' := by
  have lift : ∀ {s : Sem Value} {v : Value}, (execOp a.eval o = do pure (.value (← s))) → Gives P C s v → ∀ w', C w' → (execOp a.eval o).run P w' = .ok (.value v) w' := fun he hg w' hw => by
    rw [he]
    simp [hg w' hw]
  obtain ⟨dst, op, ty, pos, after, guard⟩ := o
  simp only at h hC
  cases op <;> simp only [pv] at h <;> try exact h.elim
  case move x => exact ⟨_, _, h, hR.evr x, fun w' _ => by simp [execOp]⟩
  case assign x => exact ⟨_, _, h, hR.evr x, fun w' _ => by simp [execOp]⟩
  case pick c x y =>
    have hc := hR.evr c
    split at h
    · rename_i t ht
      rw [ht] at hc
      have hv : a.eval c = .bool t := by
        generalize a.eval c = vc at hc
        cases hc
        rfl
      cases t with
      | true => exact ⟨_, _, h.1 rfl, hR.evr x, fun w' _ => by simp [execOp, hv, asBool]⟩
      | false => exact ⟨_, _, h.2 rfl, hR.evr y, fun w' _ => by simp [execOp, hv, asBool]⟩
    · exact h.elim
  case build t parts =>
    split at h
    · rename_i ps zs hp hz
      obtain ⟨hone, h⟩ := h
      have h0 : CellsAre w (fun b => dom σ b ∨ G b) (zs.map .val) zs.toArray := by
        refine ⟨by simp, List.all_eq_true.1 hone, ?_⟩
        · intro i c hc
          rw [List.getElem?_map] at hc
          cases hz' : zs[i]? with
          | none => rw [hz'] at hc; cases hc
          | some z => rw [hz'] at hc; cases hc; exact ⟨z, by simpa using hz', .val z⟩
      obtain ⟨cs', vs', hk, hf, hcc⟩ := fill_sound (parts.toList.map fun p => (p.1, ev fr p.2)) (parts.toList.map fun p => (p.1, a.eval p.2)) _ _ (by simp) (fun i p q h1 h2 => by
        rw [List.getElem?_map] at h1 h2
        cases hx : parts.toList[i]? with
        | none => rw [hx] at h1; cases h1
        | some x =>
          rw [hx] at h1 h2
          cases h1
          cases h2
          exact ⟨rfl, hR.evr x.2⟩) h0 h
      refine ⟨_, _, hk, hcc.vr, lift (s := Instr.build t (parts.map fun (i, x) => (i, a.eval x))) rfl fun w' _ => ?_⟩
      exact run_build w' t _ vs' (by rw [Array.toList_map]; exact built_of hp hz hf)
    · exact h.elim
  case load t x =>
    have hS := hC rfl
    have hx := hR.evr x
    generalize hv : a.eval x = vx at hx
    unfold ldK at h
    split at h
    · rename_i cs hcs
      rw [hcs] at hx
      cases hx with
      | adr vv hF hb ho hw hr =>
        rename_i b o
        obtain ⟨v, z, hk, hz, hg⟩ := load_sound (C := C) (t := t) (k := k) (fun j c hj w' hc => (cell_of_block ((hS w' hc).2 b hb (fun hm => hF (.inl (hM b hm))))).trans (hw j c hj)) hr h
        exact ⟨v, z, hk, hz, lift (by simp only [execOp, hv]) hg⟩
    · rename_i B i j hcs
      rw [hcs] at hx
      obtain ⟨hnm, h⟩ := h
      split at h
      · rename_i xs hl
        obtain ⟨hi, h⟩ := h
        cases hx with
        | ref =>
          have hmem := look_mem hl
          obtain ⟨cs, e, hb, hroom, hsz, hcell⟩ := hR.holds.1 _ hmem
          have hbl : B.b < w.heap.size := (Array.getElem?_eq_some_iff.1 hb).1
          simp only at hb hroom hsz hcell
          have hxi : xs[i]? = some (xs.getD i .any) := by simp [List.getD, List.getElem?_eq_getElem hi]
          have hg : ∃ vv : Nat → Value, ∀ (j' : Nat) (c : LV), (xs.getD i .any).cells[j']? = some c → cs[i * B.sz + j']? = some (vv j') ∧ VR w (fun b => dom σ b ∨ G b) c (vv j') := by
            refine ⟨fun j' => cs.getD (i * B.sz + j') undef, fun j' c hj => ?_⟩
            obtain ⟨_, v, hv1, hv2⟩ := hcell i _ j' c hxi hj
            have : cs.getD (i * B.sz + j') undef = v := by simp [Array.getD_eq_getD_getElem?, hv1]
            simp only [this]
            exact ⟨hv1, hv2⟩
          obtain ⟨vv, hvv⟩ := hg
          have hwc : ∀ (j' : Nat) (c : LV), ((xs.getD i .any).cells.drop j)[j']? = some c → ∀ w', C w' → w'.cell? ⟨B.b, i * B.sz + j + j', none⟩ = some (vv (j + j')) := by
            intro j' c hj w' hc
            rw [List.getElem?_drop] at hj
            have h1 := (hvv _ c hj).1
            rw [cell_of_block (w := w) ((hS w' hc).2 B.b hbl hnm)]
            simp only [World.cell?, hb]
            rw [Nat.add_assoc]
            simpa using h1
          obtain ⟨v, z, hk, hz, hg⟩ := load_sound (C := C) (t := t) (k := k) (vv := fun j' => vv (j + j')) hwc (fun j' c hj => by rw [List.getElem?_drop] at hj; exact (hvv _ c hj).2) (by
            split at h
            · rename_i m hm
              rw [hm]
              refine ⟨by have := h.1; simp only [List.length_drop]; omega, h.2⟩
            · rename_i hm
              rw [hm]
              refine ⟨by have := h.1; simp only [List.length_drop]; omega, ?_⟩
              have e : (((xs.getD i .any).cells.drop j).getD 0 .any) = (xs.getD i .any).cells.getD j .any := by simp [List.getD, List.getElem?_drop]
              rw [e]
              exact h.2
            · exact h.elim)
          exact ⟨v, z, hk, hz, lift (by simp only [execOp, hv]) hg⟩
      · exact h.elim
    · exact h.elim
  case nilCheck x =>
    have hx := hR.evr x
    split at h
    · rename_i cs hcs
      rw [hcs] at hx
      generalize hv : a.eval x = vx at hx
      cases hx with
      | adr vv hF hb ho hw hr => exact ⟨_, _, h, .adr vv hF hb ho hw hr, fun w' _ => by simp [execOp, hv]⟩
    · rename_i B i j hcs
      rw [hcs] at hx
      generalize hv : a.eval x = vx at hx
      cases hx with
      | ref => exact ⟨_, _, h, .ref, fun w' _ => by simp [execOp, hv]⟩
    · exact h.elim
  case binOp op t x y ty' =>
    obtain ⟨v, z, hk, hz, hg⟩ := bin_sound (hR.evr x) (hR.evr y) h C x y
    exact ⟨v, z, hk, hz, lift rfl hg⟩
  case unOp op t x =>
    obtain ⟨v, z, hk, hz, hg⟩ := un_sound (hR.evr x) h C
    exact ⟨v, z, hk, hz, lift rfl hg⟩
  case convert src dst' x =>
    have hx := hR.evr x
    split at h
    · rename_i q m hxe
      rw [hxe] at hx
      generalize hv : a.eval x = vx at hx
      cases hx
      obtain ⟨hs, h⟩ := h
      split at h
      · rename_i q' hd
        obtain ⟨ds, hds⟩ := Option.isSome_iff_exists.1 hs
        refine ⟨_, _, h, .val _, lift rfl fun w' _ => ?_⟩
        rw [hv]
        simp [convert, run_underlying hds, run_underlying hd, Conv.intToInt]
      · exact h.elim
    · exact h.elim
  case makeFunc f first cap =>
    cases f <;> simp only [pv] at h <;> try exact h.elim
    rename_i f
    obtain ⟨rfl, h⟩ := h
    refine ⟨.func (.func f) #[] (cap.map a.eval), _, h, .fn (args_len cap) (hR.args cap), fun w' _ => by simp [execOp, Instr.makeFunc]⟩
  case slice t x lo hi mx =>
    cases mx with
    | some m => simp only [pv] at h
    | none =>
      simp only [pv] at h
      obtain ⟨v, z, hk, hz, hg⟩ := slc_sound (plo := lo.map a.eval) (phi := hi.map a.eval) (hR.evr x) (fun l hl => by cases lo <;> simp at hl; subst hl; exact ⟨_, rfl, hR.evr _⟩) (fun hl => by cases lo <;> simp at hl ⊢) (fun l hl => by cases hi <;> simp at hl; subst hl; exact ⟨_, rfl, hR.evr _⟩) (fun hl => by cases hi <;> simp at hl ⊢) h C
      exact ⟨v, z, hk, hz, lift rfl hg⟩
  case fieldAddr s x f =>
    have hx := hR.evr x
    split at h
    · rename_i off hf
      unfold fieldOf at hf
      split at hf
      · rename_i fs hd
        cases hfs : fs[f]? with
        | none => simp [hfs] at hf
        | some g =>
          cases hi : P.info? g.type with
          | none => simp [hfs, hi] at hf
          | some i =>
            simp [hfs, hi] at hf
            obtain ⟨hne, rfl⟩ := hf
            split at h
            · rename_i cs hcs
              rw [hcs] at hx
              generalize hv : a.eval x = vx at hx
              cases hx with
              | adr vv hF hb ho hw hr =>
                rename_i b o
                refine ⟨.pointer (some ⟨b, o + g.offset, none⟩), _, h, .adr (fun j => vv (g.offset + j)) hF hb (fun j c hj => ?_) (fun j c hj => ?_) (fun j c hj => ?_), lift rfl fun w' _ => ?_⟩
                · rw [List.getElem?_drop] at hj; exact ho _ c hj
                · rw [List.getElem?_drop] at hj; rw [Nat.add_assoc]; exact hw _ c hj
                · rw [List.getElem?_drop] at hj; exact hr _ c hj
                · rw [hv]; simp [Instr.fieldAt, run_underlying hd, hfs, Instr.sureAddr, fieldPlace, sizeOf, typeInfo, hi, hne, add_none]
            · rename_i B i' j hcs
              rw [hcs] at hx
              generalize hv : a.eval x = vx at hx
              cases hx with
              | ref =>
                refine ⟨.pointer (some ⟨B.b, i' * B.sz + j + g.offset, none⟩), _, h, by rw [Nat.add_assoc]; exact .ref, lift rfl fun w' _ => ?_⟩
                rw [hv]; simp [Instr.fieldAt, run_underlying hd, hfs, Instr.sureAddr, fieldPlace, sizeOf, typeInfo, hi, hne, add_none]
            · exact h.elim
      · cases hf
    · exact h.elim
  case indexAddr t x i =>
    have hi := hR.evr i
    split at h
    · rename_i q m hie
      rw [hie] at hi
      generalize hv : a.eval i = vi at hi
      cases hi
      obtain ⟨v, z, hk, hz, hg⟩ := idx_sound (q := q) (hR.evr x) h C
      exact ⟨v, z, hk, hz, lift (by simp only [execOp, hv]) hg⟩
    · exact h.elim
  case extract x i =>
    have hx := hR.evr x
    split at h
    · rename_i vs hxe
      rw [hxe] at hx
      generalize hv : a.eval x = vx at hx
      cases hx with
      | tup hl hr =>
        rename_i us
        obtain ⟨hi, h⟩ := h
        have hi' : i < us.size := by omega
        refine ⟨us[i], _, h, hr i _ _ (by simp [List.getD, List.getElem?_eq_getElem hi]) (Array.getElem?_eq_getElem hi'), lift rfl fun w' _ => ?_⟩
        rw [hv]
        simp [Instr.extract, hi']
    · exact h.elim
  case call c =>
    obtain ⟨callee, args, ats⟩ := c
    cases callee <;> simp only [pv] at h <;> try exact h.elim
    rename_i b
    have run : ∀ {s : Sem Value} {v : Value}, (builtin b ats ty (args.map fun | .const _ => true | _ => false) (args.map a.eval) = do pure (.value (← s))) → Gives P C s v → ∀ w', C w' → (execOp a.eval { dst, op := .call { callee := .builtin b, args, argTypes := ats }, type := ty, pos, after, guard }).run P w' = .ok (.value v) w' := fun he hg w' hw => by
      simp only [execOp, resolve, invoke, Sem.run_bind, Sem.run_pure, Result.andThen_ok]
      erw [he]
      simp [hg w' hw]
    unfold bK at h
    split at h
    · split at h
      · rename_i t x hts hxs
        have hone : ∃ y, args = #[y] ∧ ev fr y = x := by
          obtain ⟨l⟩ := args
          match l, hxs with
          | [y], hxs => simp at hxs; exact ⟨y, rfl, hxs⟩
        obtain ⟨y, rfl, rfl⟩ := hone
        obtain ⟨v, z, hk, hz, hg⟩ := len_sound (ts := ats) (ty := ty) hts (hR.evr y) h C
        exact ⟨v, z, hk, hz, run (s := Builtin.len_ ats ty #[a.eval y]) (by simp [builtin]) hg⟩
      · exact h.elim
    · obtain ⟨v, z, hk, hz, hg⟩ := mx_sound (mx := true) (args_len args) (hR.args args) h C ats ty
      exact ⟨v, z, hk, hz, run rfl hg⟩
    · obtain ⟨v, z, hk, hz, hg⟩ := mx_sound (mx := false) (args_len args) (hR.args args) h C ats ty
      exact ⟨v, z, hk, hz, run rfl hg⟩
    · exact h.elim

end
end Go.Ls
