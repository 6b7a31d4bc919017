/- A small program logic over the kit's machine, part g: what the conditions of part f are worth. It bears no statement of its own. -/
import Derived.Test.YtjamehpnclkjdaaLf
namespace Go.Ls
open Go
set_option linter.unusedVariables false
set_option linter.unusedSimpArgs false

theorem slTy_some {P : Program} {t : TypeId} {z : LV} {sz by_ : Nat} (h : slTy P t = some (z, sz, by_)) : ∃ e i zv, P.underlying t = some (.slice e) ∧ P.info? e = some i ∧ i.zero = some zv ∧ zv.cells.size = sz ∧ i.size = sz ∧ 0 < sz ∧ i.bytes = by_ ∧ z = zeroLV zv ∧ zv.cells.toList.all Value.oneCell' = true := by
  unfold slTy at h
  split at h
  · rename_i e hd
    cases hi : P.info? e with
    | none => simp [hi] at h
    | some i =>
      cases hz : i.zero with
      | none => simp [hi, hz] at h
      | some zv =>
        simp only [hi, hz, Option.bind_some] at h
        split at h
        · rename_i hc
          simp only [Option.some.injEq, Prod.mk.injEq] at h
          obtain ⟨rfl, rfl, rfl⟩ := h
          exact ⟨e, i, zv, hd, hi, hz, hc.1, rfl, hc.2.1, rfl, rfl, hc.2.2⟩
        · cases h
  · cases h

theorem madeCells_at {w : World} {F : Nat → Prop} {zv : Value} {sz : Nat} (hz : zv.cells.size = sz) (hp : 0 < sz) (h1 : zv.cells.toList.all Value.oneCell' = true) (n : Nat) : CellsAt w F sz (List.replicate n (zeroLV zv)) (madeCells zv.cells (n * sz)) := by
  refine ⟨by simp [madeCells], fun i x hx => ?_, fun i x j c hx hc => ?_⟩
  · have := List.eq_of_mem_replicate (List.mem_of_getElem? hx)
    subst this
    rw [zeroLV_cells]
    simpa using hz
  · have hi : i < n := by simpa using (List.getElem?_eq_some_iff.1 hx).1
    have := List.eq_of_mem_replicate (List.mem_of_getElem? hx)
    subst this
    obtain ⟨ho, u, hu, hr⟩ := zeroLV_cell (w := w) (F := F) h1 hc
    refine ⟨ho, u, ?_, hr⟩
    have hj : j < sz := by rw [← hz]; exact (Array.getElem?_eq_some_iff.1 hu).1
    have hq : i * sz + j < n * sz := by
      have : (i + 1) * sz ≤ n * sz := Nat.mul_le_mul_right _ hi
      rw [Nat.add_mul, Nat.one_mul] at this
      omega
    have hmod : (i * sz + j) % sz = j := by rw [Nat.mul_comm, Nat.mul_add_mod, Nat.mod_eq_of_lt hj]
    have hjz : j < zv.cells.size := by omega
    have hu' : zv.cells[j] = u := by rw [Array.getElem?_eq_getElem hjz] at hu; exact Option.some.inj hu
    have hmod' : (i * sz + j) % zv.cells.size = j := by rw [hz]; exact hmod
    simp only [madeCells, Array.getElem?_map, Array.getElem?_range, if_pos hq, Option.map_some]
    rw [hmod', getElem!_pos zv.cells j hjz, hu']

theorem setCells_cells {x v : LV} {j : Nat} (h0 : 0 < v.cells.length) (h : j + v.cells.length ≤ x.cells.length) : (setCells x j v).cells = x.cells.take j ++ v.cells ++ x.cells.drop (j + v.cells.length) := by
  by_cases hx : ∃ cs, x = .agg cs
  · obtain ⟨cs, rfl⟩ := hx
    have e : (LV.agg cs).cells = cs := rfl
    rw [e] at h ⊢
    show (if j = 0 ∧ v.cells.length = cs.length then LV.agg v.cells else LV.agg (cs.take j ++ v.cells ++ cs.drop (j + v.cells.length))).cells = _
    split
    · rename_i hc
      obtain ⟨rfl, hl⟩ := hc
      have : List.drop (0 + v.cells.length) cs = [] := List.drop_eq_nil_of_le (by omega)
      rw [this]
      show v.cells = _
      simp
    · rfl
  · have hc : x.cells = [x] := by cases x <;> first | rfl | exact absurd ⟨_, rfl⟩ hx
    have hs : setCells x j v = v := by cases x <;> first | rfl | exact absurd ⟨_, rfl⟩ hx
    rw [hc] at h
    simp at h
    have hj : j = 0 := by omega
    subst hj
    have hl : v.cells.length = 1 := by omega
    rw [hs, hc, hl]
    simp

section
variable {P : Program} {n : Nat} {w0 : World} {D0 G : Nat → Prop} {fr : Fr} {σ : Heap} {a : Act} {w : World} {M : Nat → Prop} {k : LV → Heap → Prop}

theorem Rel.lt (hR : Rel n w0 D0 G fr σ a w) {b : Nat} (h : G b) : b < w.heap.size := Nat.lt_of_lt_of_le (hR.shut b h).1 hR.step.still.1

/-- Behind an operation: what the state is. -/
structure Next (w w' : World) (M G : Nat → Prop) (σ σ' : Heap) (x : LV) (v : Value) : Prop where
  holds : Holds w' (Fo σ' G) σ'
  vr : VR w' (Fo σ' G) x v
  step : Step w w' (dom σ) (dom σ')
  still : Still M w w'

theorem call_sound (hR : Rel n w0 D0 G fr σ a w) {f : FuncId} {xs : List LV} {vs : Array Value} (hl : xs.length = vs.size) (hv : ∀ (i : Nat) (c : LV) (v : Value), xs[i]? = some c → vs[i]? = some v → VR w (Fo σ G) c v) (h : callK P M f xs σ k) :
    isGo P f = true ∧ Calls P f vs w fun e w' => ∃ v x σ', e = .returned v ∧ k x σ' ∧ Next w w' M G σ σ' x v := by
  obtain ⟨σ1, τ, hp, hM, hgo, hc⟩ := h
  have hn := (hp.map (·.1.b)).nodup_iff.1 hR.holds.2
  rw [List.map_append, List.nodup_append] at hn
  obtain ⟨hn1, hn2, hn3⟩ := hn
  have hdisj : ∀ b, dom σ1 b → ¬ dom τ b := fun b h1 h2 => hn3 b (dom_map.1 h1) b (dom_map.1 h2) rfl
  have hd : ∀ {b : Nat}, dom σ b ↔ dom σ1 b ∨ dom τ b := fun {b} => (dom_perm hp).trans dom_append
  have hF : ∀ b, Fo σ1 (fun b => dom τ b ∨ G b) b → Fo σ G b := fun b hb => by
    rcases hb with hb | hb | hb
    · exact .inl (hd.2 (.inl hb))
    · exact .inl (hd.2 (.inr hb))
    · exact .inr hb
  have hsub : Sub σ1 σ := ⟨τ, hp⟩
  refine ⟨hgo, (hc (fun b => dom τ b ∨ G b) w vs (fun b hb => ?_) ⟨fun p hm => ?_, hn1⟩ hl (fun i c v h1 h2 => (hv i c v h1 h2).shrink hF)).mono ?_⟩
  · rcases hb with hb | hb
    · exact ⟨hR.holds.lt (hd.2 (.inr hb)), fun h1 => hdisj b h1 hb⟩
    · exact ⟨hR.lt hb, fun h1 => hR.apart hb (hd.2 (.inl h1))⟩
  · exact (hR.holds.1 p (hp.mem_iff.2 (List.mem_append_left _ hm))).stay (Still.refl w) (fun b _ => hF b) rfl
  · rintro e w' ⟨v, x, σ1', rfl, hk, hh, hvr, hstep⟩
    have hF' : ∀ b, Fo (σ1' ++ τ) G b → Fo σ1' (fun b => dom τ b ∨ G b) b := fun b hb => by
      rcases hb with hb | hb
      · rw [dom_append] at hb
        exact hb.imp id .inl
      · exact .inr (.inr hb)
    have hF2 : ∀ b, b < w.heap.size → Fo (σ1' ++ τ) G b → Fo σ G b := fun b hb h => by
      rcases h with h | h
      · rw [dom_append] at h
        rcases h with h | h
        · exact .inl (hd.2 (.inl (hstep.own b h hb)))
        · exact .inl (hd.2 (.inr h))
      · exact .inr h
    have hstF : Still (Fo σ G) w w' := hstep.still.mono (fun b _ h => .inl (hd.2 (.inl h)))
    refine ⟨v, x, σ1' ++ τ, rfl, hk, ⟨fun p hm => ?_, ?_⟩, hvr.shrink hF', ⟨hstep.os, hstep.tape, hstep.output, hstep.still.mono (fun b _ h => hd.2 (.inl h)), fun b hb hlt => ?_⟩, hstep.still.mono (fun b _ h => hM b h)⟩
    · rcases List.mem_append.1 hm with hm | hm
      · exact (hh.1 p hm).stay (Still.refl w') (fun b _ => hF' b) rfl
      · have hpm := hp.mem_iff.2 (List.mem_append_right _ hm)
        have hlt := (hR.holds.1 p hpm).lt
        exact (hR.holds.1 p hpm).stay hstF hF2 (hstep.still.2 _ hlt (fun h1 => hdisj _ h1 ⟨p, hm, rfl⟩))
    · rw [List.map_append, List.nodup_append]
      refine ⟨hh.2, hn2, fun b h1 c h2 e => ?_⟩
      subst e
      have ht : dom τ b := dom_map.2 h2
      have hlt := hR.holds.lt (hd.2 (.inr ht))
      exact hdisj b (hstep.own b (dom_map.2 h1) hlt) ht
    · rw [dom_append] at hb
      rcases hb with hb | hb
      · exact hd.2 (.inl (hstep.own b hb hlt))
      · exact hd.2 (.inr hb)

theorem store_sound (hR : Rel n w0 D0 G fr σ a w) {B : Blk} {xs : List LV} {i j : Nat} {x : LV} {vx : Value} {t : TypeId} (hM : M B.b) (hl : look σ B = some xs) (hi : i < xs.length) (hj : j + x.cells.length ≤ (xs.getD i .any).cells.length) (h0 : 0 < x.cells.length) (h1 : x.cells.all LV.one = true)
    (hs : sizeIs P t = some x.cells.length) (hx : VR w (Fo σ G) x vx) :
    ∃ w', (Instr.storeAt t (.pointer (some ⟨B.b, i * B.sz + j, none⟩)) vx).run P w = .ok () w' ∧ Next w w' M G σ (hput σ B (xs.set i (setCells (xs.getD i .any) j x))) (.val undef) undef := by
  have hmem := look_mem hl
  obtain ⟨cs, e, hb, hroom, hlen, hcell⟩ := hR.holds.1 _ hmem
  simp only at hb hroom hlen hcell
  have hxi : xs[i]? = some (xs.getD i .any) := by simp [List.getD, List.getElem?_eq_getElem hi]
  generalize xs.getD i .any = el at hxi hj ⊢
  have hsz := hlen i _ hxi
  have hat : CellsAt w (Fo σ G) B.sz xs cs := by
    obtain ⟨cs', e', hb', _, _, hc⟩ := (hR.holds.1 _ hmem).cellsAt
    simp only at hb' hc
    rw [hb] at hb'
    cases hb'
    exact hc (by omega)
  have hxc := hx.cellsAre h1
  have hvl : vx.cells.toList.length = x.cells.length := by simpa using hxc.1.symm
  have hbound : i * B.sz + j + x.cells.length ≤ cs.size := by
    have h2 := hat.size
    have : (i + 1) * B.sz ≤ xs.length * B.sz := Nat.mul_le_mul_right _ hi
    rw [Nat.add_mul, Nat.one_mul] at this
    omega
  have hone : ∀ v ∈ vx.cells.toList, v.oneCell' = true := by
    intro v hv
    obtain ⟨q, hq⟩ := List.getElem?_of_mem hv
    have hql : q < x.cells.length := by rw [← hvl]; exact (List.getElem?_eq_some_iff.1 hq).1
    obtain ⟨u, hu, hr⟩ := hxc.2.2 q _ (List.getElem?_eq_getElem hql)
    have : u = v := by
      rw [Array.getElem?_toList] at hq
      rw [hu] at hq
      exact Option.some.inj hq
    subst this
    exact hr.oneCell (hxc.2.1 _ (List.getElem_mem hql))
  have hst := run_storeCells_at (P := P) B.b (i * B.sz + j) e vx.cells.toList 0 cs w hb (by simpa [hvl] using hbound) hone
  simp only [Nat.add_zero] at hst
  have hsize : ∀ w, (sizeOf t).run P w = .ok x.cells.length w := fun w => by
    unfold sizeIs at hs
    cases hinf : P.info? t with
    | none => simp [hinf] at hs
    | some inf => simp [hinf] at hs; simp [sizeOf, typeInfo, hinf, hs]
  have hvs : vx.cells.size = x.cells.length := hxc.1.symm
  refine ⟨w.setRow B.b (cs.toList.take (i * B.sz + j) ++ vx.cells.toList ++ cs.toList.drop (i * B.sz + j + vx.cells.toList.length)).toArray, ?_, ?_⟩
  · simp [Instr.storeAt, Instr.sureAddr, storeVar, hsize, hvs, hst]
  · generalize hcs' : (cs.toList.take (i * B.sz + j) ++ vx.cells.toList ++ cs.toList.drop (i * B.sz + j + vx.cells.toList.length)).toArray = cs'
    have hheap := setRow_heap w B.b cs cs' e (0, 0) hb
    have hstill : Still (fun b => b = B.b) w (w.setRow B.b cs') := ⟨by simp, fun b _ hne => setRow_other w B.b b cs' hne⟩
    have hq : ∀ q, cs'[q]? = if i * B.sz + j ≤ q ∧ q < i * B.sz + j + x.cells.length then vx.cells[q - (i * B.sz + j)]? else cs[q]? := by
      intro q
      rw [← hcs', List.getElem?_toArray, hvl]
      by_cases hq1 : q < i * B.sz + j
      · rw [if_neg (by omega), List.append_assoc, List.getElem?_append_left (by simp; omega), List.getElem?_take, if_pos hq1, Array.getElem?_toList]
      · by_cases hq2 : q < i * B.sz + j + x.cells.length
        · rw [if_pos (by omega), List.append_assoc, List.getElem?_append_right (by simp; omega), List.length_take, List.getElem?_append_left (by simp at hvl ⊢; omega), Array.getElem?_toList]
          congr 1
          simp
          omega
        · rw [if_neg (by omega), List.getElem?_append_right (by simp at hvl ⊢; omega), List.getElem?_drop, Array.getElem?_toList]
          congr 1
          simp at hvl ⊢
          omega
    have hsize' : cs'.size = cs.size := by
      rw [← hcs']
      simp at hvl ⊢
      omega
    have hnew : CellsAt w (Fo σ G) B.sz (xs.set i (setCells el j x)) cs' := by
      have hcells := setCells_cells h0 hj
      refine ⟨by rw [hsize', List.length_set]; exact hat.size, fun q y hy => ?_, fun q y r c hy hc => ?_⟩
      · rw [List.getElem?_set] at hy
        split at hy
        · cases hy
          rw [hcells]
          simp
          omega
        · exact hat.len q y hy
      · rw [List.getElem?_set] at hy
        split at hy
        · rename_i eq
          subst eq
          cases hy
          rw [hcells] at hc
          by_cases hr1 : r < j
          · rw [List.append_assoc, List.getElem?_append_left (by simp; omega), List.getElem?_take, if_pos hr1] at hc
            obtain ⟨ho, v, hv, hvr⟩ := hat.cell i _ r c hxi hc
            exact ⟨ho, v, by rw [hq, if_neg (by omega)]; exact hv, hvr⟩
          · by_cases hr2 : r < j + x.cells.length
            · rw [List.append_assoc, List.getElem?_append_right (by simp; omega), List.length_take, List.getElem?_append_left (by omega)] at hc
              have : min j el.cells.length = j := by omega
              rw [this] at hc
              obtain ⟨u, hu, hvr⟩ := hxc.2.2 _ c hc
              refine ⟨hxc.2.1 c (List.mem_of_getElem? hc), u, ?_, hvr⟩
              rw [hq, if_pos (by omega), ← hu]
              congr 1
              omega
            · rw [List.getElem?_append_right (by simp; omega), List.getElem?_drop] at hc
              have hlen2 : (List.take j el.cells ++ x.cells).length = j + x.cells.length := by simp; omega
              rw [hlen2] at hc
              have e2 : j + x.cells.length + (r - (j + x.cells.length)) = r := by omega
              rw [e2] at hc
              obtain ⟨ho, v, hv, hvr⟩ := hat.cell i _ r c hxi hc
              exact ⟨ho, v, by rw [hq, if_neg (by omega)]; exact hv, hvr⟩
        · rename_i hne
          obtain ⟨ho, v, hv, hvr⟩ := hat.cell q y r c hy hc
          refine ⟨ho, v, ?_, hvr⟩
          have hrs : r < B.sz := by rw [← hat.len q y hy]; exact (List.getElem?_eq_some_iff.1 hc).1
          rw [hq, if_neg]
          · exact hv
          · rintro ⟨h2, h3⟩
            have e3 : q * B.sz + r = i * B.sz + (q * B.sz + r - i * B.sz) := by omega
            have := mul_sep hrs (by omega) e3
            exact hne this.1.symm
    have hstF : Still (Fo σ G) w (w.setRow B.b cs') := hstill.mono (fun b _ h => .inl (by subst h; exact ⟨_, hmem, rfl⟩))
    have h1' : Holds1 (w.setRow B.b cs') (Fo σ G) (B, xs.set i (setCells el j x)) := (hnew.stay hstF (fun _ _ h => h)).holds1 hheap (by rw [hsize']; exact hroom)
    exact ⟨hput_holds hR.holds hl hstill h1', .val _, ⟨rfl, rfl, rfl, hstill.mono (fun b _ h => by subst h; exact ⟨_, hmem, rfl⟩), fun b hb _ => dom_hput.1 hb⟩, hstill.mono (fun b _ h => by subst h; exact hM)⟩

end
end Go.Ls
