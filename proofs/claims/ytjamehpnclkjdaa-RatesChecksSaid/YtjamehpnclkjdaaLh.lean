/- A small program logic over the kit's machine, part h: append, and all operations that make or write memory. It bears no statement of its own. -/
import Derived.Test.YtjamehpnclkjdaaLg
namespace Go.Ls
open Go
set_option linter.unusedVariables false
set_option linter.unusedSimpArgs false

theorem CellsAt.append {w : World} {F : Nat → Prop} {sz : Nat} {xs ys : List LV} {as bs cs : List Value} (hx : CellsAt w F sz xs as.toArray) (hl : as.length = xs.length * sz) (hy : CellsAt w F sz ys bs.toArray) : CellsAt w F sz (xs ++ ys) (as ++ bs ++ cs).toArray := by
  refine ⟨?_, fun i x hi => ?_, fun i x j c hi hj => ?_⟩
  · have := hy.size
    simp only [List.size_toArray, List.length_append, Nat.add_mul] at this ⊢
    omega
  · rw [List.getElem?_append] at hi
    split at hi
    · exact hx.len i x hi
    · exact hy.len _ x hi
  · rw [List.getElem?_append] at hi
    split at hi
    · rename_i hlt
      obtain ⟨ho, v, hv, hr⟩ := hx.cell i x j c hi hj
      refine ⟨ho, v, ?_, hr⟩
      rw [List.getElem?_toArray] at hv ⊢
      have := (List.getElem?_eq_some_iff.1 hv).1
      rw [List.append_assoc, List.getElem?_append_left this]
      exact hv
    · rename_i hge
      obtain ⟨ho, v, hv, hr⟩ := hy.cell _ x j c hi hj
      refine ⟨ho, v, ?_, hr⟩
      rw [List.getElem?_toArray] at hv ⊢
      have h1 := (List.getElem?_eq_some_iff.1 hv).1
      have e : i * sz + j = as.length + ((i - xs.length) * sz + j) := by
        rw [hl, ← Nat.add_assoc, ← Nat.add_mul]
        congr 2
        omega
      rw [e, List.append_assoc, List.getElem?_append_right (by omega), Nat.add_sub_cancel_left, List.getElem?_append_left h1]
      exact hv

theorem CellsAt.more {w : World} {F : Nat → Prop} {sz : Nat} {xs : List LV} {as : List Value} {cs : Array Value} (hx : CellsAt w F sz xs as.toArray) (hc : ∀ (q : Nat) (u : Value), as[q]? = some u → cs[q]? = some u) (hs : as.length ≤ cs.size) : CellsAt w F sz xs cs :=
  ⟨Nat.le_trans hx.size (by simpa using hs), hx.len, fun i x j c hi hj => by
    obtain ⟨ho, v, hv, hr⟩ := hx.cell i x j c hi hj
    exact ⟨ho, v, hc _ _ (by simpa using hv), hr⟩⟩

theorem Step.left {w w' : World} {D0 D D' : Nat → Prop} (h : Step w w' D D') (hd : ∀ b, D b → D0 b) : Step w w' D0 D' :=
  ⟨h.os, h.tape, h.output, h.still.mono (fun b _ hb => hd b hb), fun b hb hl => hd b (h.own b hb hl)⟩

section
variable {P : Program} {n : Nat} {w0 : World} {D0 G : Nat → Prop} {fr : Fr} {σ τ τ' : Heap} {a : Act} {w : World} {M : Nat → Prop}

/-- The elements that an append takes, as the machine's cells. -/
theorem src_news (hh : Holds w (Fo σ G) σ) {sz : Nat} (hp : 0 < sz) {x : LV} {vx : Value} {ys : List LV} (hs : Src σ sz x ys) (hx : VR w (Fo σ G) x vx) : (ys = [] ∧ ∃ ad c, vx = .slice ad 0 c) ∨
    ∃ (ad : Addr) (c : Nat) (news : List Value), vx = .slice (some ad) ys.length c ∧ 0 < ys.length ∧ news.length = ys.length * sz ∧ (∀ (j : Nat) (u : Value), news[j]? = some u → w.cell? (ad.add j) = some u) ∧ (∀ u ∈ news, u.oneCell' = true) ∧ CellsAt w (Fo σ G) sz ys news.toArray := by
  have ones : ∀ {news : List Value}, news.length = ys.length * sz → CellsAt w (Fo σ G) sz ys news.toArray → ∀ u ∈ news, u.oneCell' = true := by
    intro news hl hc u hu
    obtain ⟨q, hq⟩ := List.getElem?_of_mem hu
    have hql : q < ys.length * sz := by rw [← hl]; exact (List.getElem?_eq_some_iff.1 hq).1
    have hi : q / sz < ys.length := (Nat.div_lt_iff_lt_mul hp).2 hql
    have hj : q % sz < (ys[q / sz]).cells.length := by rw [hc.len _ _ (List.getElem?_eq_getElem hi)]; exact Nat.mod_lt _ hp
    obtain ⟨ho, v, hv, hr⟩ := hc.cell _ _ _ _ (List.getElem?_eq_getElem hi) (List.getElem?_eq_getElem hj)
    have e : q / sz * sz + q % sz = q := by rw [Nat.mul_comm]; exact Nat.div_add_mod q sz
    rw [e, List.getElem?_toArray, hq] at hv
    cases hv
    exact hr.oneCell ho
  rcases hs with rfl | ⟨rfl, rfl⟩ | ⟨B, off, m, zs, rfl, rfl, hl, hle, rfl⟩
  · cases hx with
    | nil => exact .inl ⟨rfl, _, _, rfl⟩
    | ro vv hF hb hc hz ho hw hr =>
      rename_i b o cap
      by_cases h0 : ys.length = 0
      · exact .inl ⟨List.eq_nil_of_length_eq_zero h0, _, _, by rw [h0]⟩
      · have hat : CellsAt w (Fo σ G) sz ys ((List.range (ys.length * sz)).map fun q => vv (q / sz) (q % sz)).toArray := by
          refine ⟨by simp, hz, fun i x j c hi hj => ⟨ho i x j c hi hj, vv i j, ?_, hr i x j c hi hj⟩⟩
          have hjs : j < sz := by rw [← hz i x hi]; exact (List.getElem?_eq_some_iff.1 hj).1
          have hil : i < ys.length := (List.getElem?_eq_some_iff.1 hi).1
          have hq : i * sz + j < ys.length * sz := by
            have : (i + 1) * sz ≤ ys.length * sz := Nat.mul_le_mul_right _ hil
            rw [Nat.add_mul, Nat.one_mul] at this
            omega
          have e1 : (i * sz + j) / sz = i := by rw [Nat.mul_comm, Nat.mul_add_div hp, Nat.div_eq_of_lt hjs, Nat.add_zero]
          have e2 : (i * sz + j) % sz = j := by rw [Nat.mul_comm, Nat.mul_add_mod, Nat.mod_eq_of_lt hjs]
          rw [List.getElem?_toArray, List.getElem?_map, List.getElem?_range hq, Option.map_some, e1, e2]
        refine .inr ⟨_, _, (List.range (ys.length * sz)).map fun q => vv (q / sz) (q % sz), rfl, by omega, by simp, fun q u hq => ?_, ones (by simp) hat, hat⟩
        have hql : q < ys.length * sz := by simpa using (List.getElem?_eq_some_iff.1 hq).1
        rw [List.getElem?_map, List.getElem?_range hql, Option.map_some] at hq
        cases hq
        have hi : q / sz < ys.length := (Nat.div_lt_iff_lt_mul hp).2 hql
        have hj : q % sz < (ys[q / sz]).cells.length := by rw [hz _ _ (List.getElem?_eq_getElem hi)]; exact Nat.mod_lt _ hp
        have := hw _ _ _ _ (List.getElem?_eq_getElem hi) (List.getElem?_eq_getElem hj)
        have e : q / sz * sz + q % sz = q := by rw [Nat.mul_comm]; exact Nat.div_add_mod q sz
        rw [e] at this
        rw [add_none]
        exact this
  · cases hx
    exact .inl ⟨rfl, _, _, rfl⟩
  · cases hx with
    | msl hc hm hr =>
      rename_i cap
      have hlen : ((zs.drop off).take m).length = m := by simp; omega
      by_cases h0 : m = 0
      · subst h0
        exact .inl ⟨by simp, _, _, rfl⟩
      · obtain ⟨cs, e, hb, hroom, hls, hcs⟩ := (hh.1 _ (look_mem hl)).cellsAt
        simp only at hb hroom hls hcs
        have hat := hcs hp
        have hsz := hat.size
        have hbound : off * B.sz + m * B.sz ≤ cs.size := by
          rw [← Nat.add_mul]
          exact Nat.le_trans (Nat.mul_le_mul_right _ hle) hsz
        have hnl : ((cs.toList.drop (off * B.sz)).take (m * B.sz)).length = m * B.sz := by simp; omega
        have hat2 : CellsAt w (Fo σ G) B.sz ((zs.drop off).take m) ((cs.toList.drop (off * B.sz)).take (m * B.sz)).toArray := by
          have hg : ∀ {i : Nat} {x : LV}, ((zs.drop off).take m)[i]? = some x → i < m ∧ zs[off + i]? = some x := by
            intro i x hi
            rw [List.getElem?_take] at hi
            split at hi
            · rw [List.getElem?_drop] at hi; exact ⟨by assumption, hi⟩
            · cases hi
          refine ⟨by rw [hlen, List.size_toArray, hnl]; exact Nat.le_refl _, fun i x hi => hat.len _ x (hg hi).2, fun i x j c hi hj => ?_⟩
          obtain ⟨ho, v, hv, hvr⟩ := hat.cell _ x j c (hg hi).2 hj
          refine ⟨ho, v, ?_, hvr⟩
          have hjs : j < B.sz := by rw [← hat.len _ x (hg hi).2]; exact (List.getElem?_eq_some_iff.1 hj).1
          have hq : i * B.sz + j < m * B.sz := by
            have : (i + 1) * B.sz ≤ m * B.sz := Nat.mul_le_mul_right _ (hg hi).1
            rw [Nat.add_mul, Nat.one_mul] at this
            omega
          rw [List.getElem?_toArray, List.getElem?_take, if_pos hq, List.getElem?_drop, Array.getElem?_toList, ← hv]
          congr 1
          rw [Nat.add_mul]
          omega
        refine .inr ⟨_, cap, (cs.toList.drop (off * B.sz)).take (m * B.sz), by rw [hlen], by omega, by rw [hlen, hnl], fun q u hq => ?_, ones (by rw [hlen, hnl]) hat2, hat2⟩
        have hql : q < m * B.sz := by rw [← hnl]; exact (List.getElem?_eq_some_iff.1 hq).1
        rw [List.getElem?_take, if_pos hql, List.getElem?_drop, Array.getElem?_toList] at hq
        rw [add_none]
        simp only [World.cell?, hb]
        simpa using hq

theorem append_sound (hR : Rel n w0 D0 G fr σ a w) {t ty : TypeId} {z : LV} {sz by_ : Nat} (hty : slTy P t = some (z, sz, by_)) {s x : LV} {vs vx : Value} {xs ys : List LV} (hs : VR w (Fo σ G) s vs) (hx : VR w (Fo σ G) x vx) (hown : Own sz s xs σ τ) (hsrc : Src σ sz x ys)
    (hsub : Sub τ' τ) (hM : ∀ B n, s = .msl B 0 n → M B.b ∨ B.room = n * B.sz) (hlen : xs.length + ys.length ≤ maxLen) (hbytes : (xs.length + ys.length) * by_ ≤ 140737488355328) :
    ∃ v' w' σ' x', (Builtin.append_ #[t, t] ty #[vs, vx]).run P w = .ok v' w' ∧ OwnE sz x' (xs ++ ys) σ' τ' ∧ Next w w' M G σ σ' x' v' := by
  obtain ⟨e, i, zv, hd, hi, hz, hzs, his, hp, hby, rfl, hz1⟩ := slTy_some hty
  subst hby
  have hG : ∀ b, G b → b < w.heap.size := fun b h => hR.lt h
  have hσ : Sub τ σ := by
    rcases hown with ⟨_, _, h⟩ | ⟨B, _, _, h⟩
    · exact Sub.of_perm h
    · exact (Sub.skip _ (Sub.refl τ)).trans (Sub.of_perm h)
  have hτσ : Sub τ' σ := hsub.trans hσ
  have hτ' : Holds w (Fo τ' G) τ' := hR.holds.sub hτσ
  have stay : ∀ {y : LV} {v : Value} {ρ : Heap}, Sub ρ σ → VR w (Fo σ G) y v → Next w w M G σ ρ y v := fun {y v ρ} hρ hy =>
    ⟨hR.holds.sub hρ, hy.shrink (fun b hb => hb.imp hρ.dom id), (Step.refl w (dom ρ)).left (fun b hb => hρ.dom hb), Still.refl w⟩
  have hm63 : maxLen ≤ 9223372036854775807 := by decide
  -- a new block
  have fresh : ∀ (cells : Array Value) (cap : Nat) (zs : List LV), CellsAt w (Fo σ G) sz zs cells → cells.size = cap * sz → zs.length ≤ cap → cap ≤ maxLen →
      OwnE sz (.msl ⟨w.heap.size, sz, cells.size⟩ 0 zs.length) zs ((⟨w.heap.size, sz, cells.size⟩, zs) :: τ') τ' ∧ Next w (w.drew.alloc (.cells cells e)) M G σ ((⟨w.heap.size, sz, cells.size⟩, zs) :: τ') (.msl ⟨w.heap.size, sz, cells.size⟩ 0 zs.length) (.slice (some ⟨w.heap.size, 0, none⟩) zs.length cap) := by
    intro cells cap zs hat hsize hzc hcm
    have := alloc_next (w' := w.drew.alloc (.cells cells e)) (B := ⟨w.heap.size, sz, cells.size⟩) (M := M) (e := e) hτ' hG rfl rfl rfl rfl rfl rfl (hat.stay (Still.refl w) (fun b _ hb => hb.imp hτσ.dom id))
    refine ⟨.inr ⟨_, rfl, rfl, rfl⟩, ⟨this.1, ?_, this.2.1.left (fun b hb => hτσ.dom hb), this.2.2.1⟩⟩
    have e0 : (⟨w.heap.size, 0, none⟩ : Addr) = ⟨w.heap.size, 0 * sz, none⟩ := by rw [Nat.zero_mul]
    rw [e0]
    exact .msl hzc hcm (by simp [hsize])
  rcases src_news hR.holds hp hsrc hx with ⟨rfl, ad, c, rfl⟩ | ⟨ad, c, news, rfl, hy0, hnl, hnews, hn1, hnat⟩
  · rcases hown with ⟨rfl, rfl, hperm⟩ | ⟨B, hBsz, rfl, hperm⟩
    · cases hs
      refine ⟨.slice none 0 0, w, τ', .val (.slice none 0 0), ?_, .inl ⟨rfl, rfl, rfl⟩, stay hτσ (.val _)⟩
      cases ad <;> simp [Builtin.append_, run_underlying hd, sizeOf, typeInfo, hi, Builtin.lenOf, Builtin.firstCells, loadCells, loadCellsFrom]
    · have hs' := hs
      cases hs with
      | msl hc hm hr =>
        rename_i cap
        refine ⟨_, w, (B, xs) :: τ', .msl B 0 xs.length, ?_, .inr ⟨B, hBsz, by simp, by simp⟩, stay ((Sub.cons _ hsub).trans (Sub.of_perm hperm)) hs'⟩
        cases ad <;> simp [Builtin.append_, run_underlying hd, sizeOf, typeInfo, hi, Builtin.lenOf, Builtin.firstCells, loadCells, loadCellsFrom, hc, storeCells]
  · rcases hown with ⟨rfl, rfl, hperm⟩ | ⟨B, hBsz, rfl, hperm⟩
    · cases hs
      simp only [List.length_nil, Nat.zero_add, List.nil_append] at hlen hbytes ⊢
      have hrun := run_append_nil (P := P) w t ty e i zv hd hi hz ad ys.length c news (by rw [his]; exact hnl) hnews hy0 (by omega) (by omega)
      have hge := grownCap_ge w ys.length 0 e
      have hsize : (news.toArray ++ Builtin.zeroCells zv.cells (grownCap w ys.length 0 e - ys.length)).size = grownCap w ys.length 0 e * sz := by
        rw [Array.size_append, size_zeroCells, hzs, List.size_toArray, hnl, ← Nat.add_mul]
        congr 1
        omega
      have hf := fresh _ (grownCap w ys.length 0 e) ys (hnat.more (cs := news.toArray ++ Builtin.zeroCells zv.cells (grownCap w ys.length 0 e - ys.length)) (fun q u hq => by
        have := (List.getElem?_eq_some_iff.1 hq).1
        rw [Array.getElem?_append_left (by simpa using this)]
        simpa using hq) (by simp)) hsize hge (grownCap_le_maxLen w _ 0 e hlen)
      exact ⟨_, _, _, _, hrun, hf.1, hf.2⟩
    · have hs' := hs
      cases hs with
      | msl hc hm hr =>
        rename_i cap
        rw [Nat.zero_mul] at hs' ⊢
        rw [Nat.zero_add] at hr
        have hmem : (B, xs) ∈ σ := hperm.mem_iff.2 List.mem_cons_self
        obtain ⟨cs, e', hb, hroom, _, hcs⟩ := (hR.holds.1 _ hmem).cellsAt
        simp only at hb hroom hcs
        rw [hBsz] at hcs hr
        have hat := hcs hp
        have hxl : xs.length * sz ≤ cs.size := hat.size
        have hol : (cs.toList.take (xs.length * sz)).length = xs.length * sz := by simp; omega
        have hold : CellsAt w (Fo σ G) sz xs (cs.toList.take (xs.length * sz)).toArray := by
          refine ⟨by rw [List.size_toArray, hol]; exact Nat.le_refl _, hat.len, fun i x j c hi hj => ?_⟩
          obtain ⟨ho, v, hv, hvr⟩ := hat.cell i x j c hi hj
          refine ⟨ho, v, ?_, hvr⟩
          have hjs : j < sz := by rw [← hat.len i x hi]; exact (List.getElem?_eq_some_iff.1 hj).1
          have hil : i < xs.length := (List.getElem?_eq_some_iff.1 hi).1
          have : (i + 1) * sz ≤ xs.length * sz := Nat.mul_le_mul_right _ hil
          rw [Nat.add_mul, Nat.one_mul] at this
          rw [List.getElem?_toArray, List.getElem?_take, if_pos (by omega), Array.getElem?_toList]
          exact hv
        have hlapp : (xs ++ ys).length = xs.length + ys.length := List.length_append
        by_cases hfit : xs.length + ys.length ≤ cap
        · have hMB : M B.b := (hM B _ rfl).resolve_right fun hroom => by
            rw [hBsz, ← hr] at hroom
            have := Nat.eq_of_mul_eq_mul_right hp hroom
            omega
          have hcap : (xs.length + ys.length) * sz ≤ cs.size := by rw [hroom, ← hr]; exact Nat.mul_le_mul_right _ hfit
          rw [Nat.add_mul] at hcap
          -- the element type of the block is the slice's own, or no matter: the machine writes cells alone
          have hrun : (Builtin.append_ #[t, t] ty #[.slice (some ⟨B.b, 0, none⟩) xs.length cap, .slice (some ad) ys.length c]).run P w =
              .ok (.slice (some ⟨B.b, 0, none⟩) (xs.length + ys.length) cap) (w.setRow B.b (cs.toList.take (xs.length * i.size) ++ news ++ cs.toList.drop (xs.length * i.size + news.length)).toArray) := by
            have hf := run_firstCells_some (P := P) w i.size ys.length ad ys.length c news (by rw [his]; exact hnl) hnews
            have hst := run_storeCells_at P B.b (xs.length * i.size) e' news 0 cs w hb (by rw [his, hnl]; omega) hn1
            simp only [Nat.add_zero] at hst
            simp [Builtin.append_, run_underlying hd, sizeOf, typeInfo, hi, Builtin.lenOf, hfit, hf, Addr.add_lit, hst]
          rw [his] at hrun
          generalize hcs' : (cs.toList.take (xs.length * sz) ++ news ++ cs.toList.drop (xs.length * sz + news.length)).toArray = cs' at hrun
          have hheap := setRow_heap w B.b cs cs' e' (0, 0) hb
          have hstill : Still (fun b => b = B.b) w (w.setRow B.b cs') := ⟨by simp, fun b _ hne => setRow_other w B.b b cs' hne⟩
          have hsize' : cs'.size = cs.size := by
            rw [← hcs']
            simp
            omega
          have hnew : CellsAt w (Fo σ G) sz (xs ++ ys) cs' := by
            rw [← hcs']
            exact hold.append hol hnat
          have hρ : Sub ((B, xs) :: τ') σ := (Sub.cons _ hsub).trans (Sub.of_perm hperm)
          have hBd : dom σ B.b := ⟨_, hmem, rfl⟩
          have hstF : Still (Fo σ G) w (w.setRow B.b cs') := hstill.mono (fun b _ h => .inl (by subst h; exact hBd))
          have hlook : look ((B, xs) :: τ') B = some xs := by simp [look]
          have hput : hput ((B, xs) :: τ') B (xs ++ ys) = (B, xs ++ ys) :: τ' := by simp [Ls.hput]
          have h1' : Holds1 (w.setRow B.b cs') (Fo ((B, xs) :: τ') G) (B, xs ++ ys) := by
            have := hnew.stay hstF (F' := Fo ((B, xs) :: τ') G) (fun b _ hb => hb.imp hρ.dom id)
            rw [← hBsz] at this
            exact this.holds1 hheap (by rw [hsize']; exact hroom)
          have hh := hput_holds (hR.holds.sub hρ) hlook hstill h1'
          rw [hput] at hh
          refine ⟨_, _, (B, xs ++ ys) :: τ', .msl B 0 (xs ++ ys).length, hrun, .inr ⟨B, hBsz, rfl, rfl⟩, ⟨hh, ?_, ⟨rfl, rfl, rfl, hstill.mono (fun b _ h => by subst h; exact hBd), fun b hb _ => hρ.dom ?_⟩, hstill.mono (fun b _ h => by subst h; exact hMB)⟩⟩
          · have e0 : (⟨B.b, 0, none⟩ : Addr) = ⟨B.b, 0 * B.sz, none⟩ := by rw [Nat.zero_mul]
            rw [e0, ← hlapp]
            exact .msl (by omega) hm (by rw [Nat.zero_add, hBsz]; exact hr)
          · rw [dom_cons] at hb ⊢
            exact hb
        · have hrun := run_append_grow (P := P) w t ty e i zv hd hi hz ⟨B.b, 0, none⟩ xs.length cap (cs.toList.take (xs.length * sz)) (by rw [his]; exact hol) (fun q u hq => by
              have hql : q < xs.length * sz := by rw [← hol]; exact (List.getElem?_eq_some_iff.1 hq).1
              rw [List.getElem?_take, if_pos hql, Array.getElem?_toList] at hq
              rw [add_none]
              simp only [World.cell?, hb]
              simpa using hq) ad ys.length c news (by rw [his]; exact hnl) hnews (by omega) (by omega) (growslice_fits (by omega) hbytes)
          have hge := grownCap_ge w (xs.length + ys.length) cap e
          have hsize : ((cs.toList.take (xs.length * sz)).toArray ++ news.toArray ++ Builtin.zeroCells zv.cells (grownCap w (xs.length + ys.length) cap e - (xs.length + ys.length))).size = grownCap w (xs.length + ys.length) cap e * sz := by
            rw [Array.size_append, Array.size_append, size_zeroCells, hzs, List.size_toArray, List.size_toArray, hol, hnl, ← Nat.add_mul, ← Nat.add_mul]
            congr 1
            omega
          have hf := fresh _ (grownCap w (xs.length + ys.length) cap e) (xs ++ ys) (by
            have := hold.append (cs := (Builtin.zeroCells zv.cells (grownCap w (xs.length + ys.length) cap e - (xs.length + ys.length))).toList) hol hnat
            have e2 : (cs.toList.take (xs.length * sz) ++ news ++ (Builtin.zeroCells zv.cells (grownCap w (xs.length + ys.length) cap e - (xs.length + ys.length))).toList).toArray = (cs.toList.take (xs.length * sz)).toArray ++ news.toArray ++ Builtin.zeroCells zv.cells (grownCap w (xs.length + ys.length) cap e - (xs.length + ys.length)) := by
              apply Array.ext'
              simp
            rw [e2] at this
            exact this) hsize (by rw [hlapp]; exact hge) (grownCap_le_maxLen w _ cap e hlen)
          rw [hlapp] at hf
          exact ⟨_, _, _, _, hrun, hf.1, hf.2⟩
end
end Go.Ls
