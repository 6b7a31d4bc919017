/- A small program logic over the kit's machine, part e: operations that make or write memory, and calls. It bears no statement of its own. -/
import Derived.Test.YtjamehpnclkjdaaLd
namespace Go.Ls
open Go
set_option linter.unusedVariables false
set_option linter.unusedSimpArgs false

/-! ### Heaps -/
def hput : Heap → Blk → List LV → Heap
  | [], _, _ => []
  | (B', xs) :: σ, B, ys => if B = B' then (B, ys) :: σ else (B', xs) :: hput σ B ys

abbrev Fo (σ : Heap) (G : Nat → Prop) : Nat → Prop := fun b => dom σ b ∨ G b

theorem dom_cons {p : Blk × List LV} {σ : Heap} {b : Nat} : dom (p :: σ) b ↔ p.1.b = b ∨ dom σ b := by
  unfold dom
  simp only [List.mem_cons]
  constructor
  · rintro ⟨q, rfl | hq, hb⟩
    · exact .inl hb
    · exact .inr ⟨q, hq, hb⟩
  · rintro (h | ⟨q, hq, hb⟩)
    · exact ⟨p, .inl rfl, h⟩
    · exact ⟨q, .inr hq, hb⟩
theorem dom_append {σ τ : Heap} {b : Nat} : dom (σ ++ τ) b ↔ dom σ b ∨ dom τ b := by
  unfold dom
  simp only [List.mem_append]
  constructor
  · rintro ⟨q, h | h, hb⟩
    · exact .inl ⟨q, h, hb⟩
    · exact .inr ⟨q, h, hb⟩
  · rintro (⟨q, h, hb⟩ | ⟨q, h, hb⟩)
    · exact ⟨q, .inl h, hb⟩
    · exact ⟨q, .inr h, hb⟩
theorem dom_perm {σ τ : Heap} (h : σ.Perm τ) {b : Nat} : dom σ b ↔ dom τ b := by
  unfold dom
  exact ⟨fun ⟨q, hq, hb⟩ => ⟨q, h.mem_iff.1 hq, hb⟩, fun ⟨q, hq, hb⟩ => ⟨q, h.mem_iff.2 hq, hb⟩⟩
theorem dom_nil {b : Nat} : ¬ dom [] b := fun ⟨_, h, _⟩ => by cases h
theorem dom_map {σ : Heap} {b : Nat} : dom σ b ↔ b ∈ σ.map (·.1.b) := by
  unfold dom
  simp only [List.mem_map]

theorem dom_hput : ∀ {σ : Heap} {B : Blk} {ys : List LV} {b : Nat}, dom (hput σ B ys) b ↔ dom σ b
  | [], _, _, _ => Iff.rfl
  | (B', xs) :: σ, B, ys, b => by
    unfold hput
    split
    · rename_i e; subst e; simp only [dom_cons]
    · simp only [dom_cons, dom_hput (σ := σ)]

theorem map_hput : ∀ {σ : Heap} {B : Blk} {ys : List LV}, (hput σ B ys).map (·.1.b) = σ.map (·.1.b)
  | [], _, _ => rfl
  | (B', xs) :: σ, B, ys => by
    unfold hput
    split
    · rename_i e; subst e; rfl
    · simp [map_hput (σ := σ)]

theorem mem_hput : ∀ {σ : Heap} {B : Blk} {ys : List LV} {p : Blk × List LV}, p ∈ hput σ B ys → (σ.map (·.1.b)).Nodup → p = (B, ys) ∨ (p ∈ σ ∧ p.1.b ≠ B.b) ∨ (p ∈ σ ∧ look σ B = none)
  | [], _, _, _, h, _ => by simp [hput] at h
  | (B', xs) :: σ, B, ys, p, h, hn => by
    unfold hput at h
    simp only [List.map_cons, List.nodup_cons] at hn
    split at h
    · rename_i e
      subst e
      rcases List.mem_cons.1 h with rfl | h
      · exact .inl rfl
      · refine .inr (.inl ⟨List.mem_cons_of_mem _ h, fun he => hn.1 ?_⟩)
        rw [← he]
        exact List.mem_map_of_mem h
    · rename_i e
      rcases List.mem_cons.1 h with rfl | h
      · by_cases hb : B'.b = B.b
        · refine .inr (.inr ⟨List.mem_cons_self, ?_⟩)
          unfold look
          rw [if_neg e]
          cases hl : look σ B with
          | none => rfl
          | some zs => exact absurd (by rw [hb]; exact List.mem_map_of_mem (f := (·.1.b)) (look_mem hl)) hn.1
        · exact .inr (.inl ⟨List.mem_cons_self, hb⟩)
      · rcases mem_hput h hn.2 with h | ⟨h, h2⟩ | ⟨h, h2⟩
        · exact .inl h
        · exact .inr (.inl ⟨List.mem_cons_of_mem _ h, h2⟩)
        · refine .inr (.inr ⟨List.mem_cons_of_mem _ h, ?_⟩)
          unfold look
          rw [if_neg e]
          exact h2

/-- What is left of a heap when some blocks are forgotten. -/
def Sub (τ σ : Heap) : Prop := ∃ ρ, σ.Perm (τ ++ ρ)

theorem Sub.refl (σ : Heap) : Sub σ σ := ⟨[], by simp⟩
theorem Sub.nil (σ : Heap) : Sub [] σ := ⟨σ, by simp⟩
theorem Sub.cons {τ σ : Heap} (p : Blk × List LV) (h : Sub τ σ) : Sub (p :: τ) (p :: σ) := let ⟨ρ, h⟩ := h; ⟨ρ, h.cons p⟩
theorem Sub.skip {τ σ : Heap} (p : Blk × List LV) (h : Sub τ σ) : Sub τ (p :: σ) := let ⟨ρ, h⟩ := h; ⟨p :: ρ, (h.cons p).trans List.perm_middle.symm⟩
theorem Sub.dom {τ σ : Heap} (h : Sub τ σ) {b : Nat} (hb : dom τ b) : Ls.dom σ b := by
  obtain ⟨ρ, h⟩ := h
  rw [dom_perm h, dom_append]
  exact .inl hb
theorem Sub.trans {a b c : Heap} (h : Sub a b) (k : Sub b c) : Sub a c := by
  obtain ⟨r, h⟩ := h
  obtain ⟨s, k⟩ := k
  exact ⟨r ++ s, k.trans (by rw [← List.append_assoc]; exact h.append_right s)⟩
theorem Sub.of_perm {τ σ : Heap} (h : σ.Perm τ) : Sub τ σ := ⟨[], by simpa using h⟩

section
variable {w w' : World} {G : Nat → Prop} {σ τ : Heap}

theorem Holds.sub (h : Holds w (Fo σ G) σ) (hs : Sub τ σ) : Holds w (Fo τ G) τ := by
  have hd : ∀ b, Fo τ G b → Fo σ G b := fun b hb => hb.imp hs.dom id
  obtain ⟨ρ, hp⟩ := hs
  refine ⟨fun p hm => (h.1 p (hp.mem_iff.2 (List.mem_append_left _ hm))).stay (Still.refl w) (fun b _ => hd b) rfl, ?_⟩
  have := (hp.map (·.1.b)).nodup_iff.1 h.2
  rw [List.map_append] at this
  exact (List.nodup_append.1 this).1

theorem Rel.sub {n : Nat} {w0 : World} {D0 : Nat → Prop} {fr : Fr} {a : Act} (h : Rel n w0 D0 G fr σ a w) (hs : Sub τ σ) : Rel n w0 D0 G fr τ a w :=
  ⟨h.defers, h.size, fun t => (h.frame t).shrink (fun b hb => hb.imp hs.dom id), h.holds.sub hs, h.shut, ⟨h.step.os, h.step.tape, h.step.output, h.step.still, fun b hb hl => h.step.own b (hs.dom hb) hl⟩⟩

/-- A heap that says less of the same memory. -/
def HV (σ τ : Heap) : Prop := (∀ b, dom τ b → dom σ b) ∧ ∀ (w : World) (G : Nat → Prop), (∀ b, G b → ¬ dom σ b) → Holds w (Fo σ G) σ → Holds w (Fo τ G) τ
theorem HV.of_sub (hs : Sub τ σ) : HV σ τ := ⟨fun b hb => hs.dom hb, fun w G _ h => h.sub hs⟩
theorem HV.refl (σ : Heap) : HV σ σ := HV.of_sub (Sub.refl σ)
theorem HV.trans {σ τ ρ : Heap} (h : HV σ τ) (k : HV τ ρ) : HV σ ρ := ⟨fun b hb => h.1 b (k.1 b hb), fun w G hG hh => k.2 w G (fun b hb hd => hG b hb (h.1 b hd)) (h.2 w G hG hh)⟩
theorem HV.take {B : Blk} {xs : List LV} {σ : Heap} (i : Nat) : HV ((B, xs) :: σ) ((B, xs.take i) :: σ) := by
  have hd : ∀ b, dom ((B, xs.take i) :: σ) b ↔ dom ((B, xs) :: σ) b := fun b => by simp only [dom_cons]
  refine ⟨fun b hb => (hd b).1 hb, fun w G hG hh => ⟨fun p hp => ?_, hh.2⟩⟩
  rcases List.mem_cons.1 hp with rfl | hp
  · obtain ⟨cs, e, h1, h2, h3, h4⟩ := hh.1 _ List.mem_cons_self
    have get : ∀ {j : Nat} {x : LV}, (xs.take i)[j]? = some x → xs[j]? = some x := fun {j x} hj => by
      rw [List.getElem?_take] at hj
      split at hj
      · exact hj
      · cases hj
    refine ⟨cs, e, h1, h2, fun j x hj => h3 j x (get hj), fun j x l c hj hc => ?_⟩
    obtain ⟨ho, v, hv, hr⟩ := h4 j x l c (get hj) hc
    exact ⟨ho, v, hv, hr.shrink fun b hb => hb.imp (hd b).1 id⟩
  · exact (hh.1 p (List.mem_cons_of_mem _ hp)).stay (Still.refl w) (fun b _ hb => hb.imp (hd b).1 id) rfl
theorem Rel.hv {n : Nat} {w0 : World} {D0 : Nat → Prop} {fr : Fr} {a : Act} (h : Rel n w0 D0 G fr σ a w) (hs : HV σ τ) : Rel n w0 D0 G fr τ a w :=
  ⟨h.defers, h.size, fun t => (h.frame t).shrink (fun b hb => hb.imp (hs.1 b) id), hs.2 w G (fun b hb => h.apart hb) h.holds, h.shut, ⟨h.step.os, h.step.tape, h.step.output, h.step.still, fun b hb hl => h.step.own b (hs.1 b hb) hl⟩⟩

/-- A new block beside the old ones. -/
theorem Holds.cons {B : Blk} {xs : List LV} (h : Holds w (Fo σ G) σ) (hG : ∀ b, G b → b < w.heap.size) (hst : Still (fun _ => False) w w') (hB : B.b = w.heap.size)
    (h1 : Holds1 w' (Fo ((B, xs) :: σ) G) (B, xs)) : Holds w' (Fo ((B, xs) :: σ) G) ((B, xs) :: σ) ∧ ∀ b, b < w.heap.size → Fo ((B, xs) :: σ) G b → Fo σ G b := by
  have hF : ∀ b, b < w.heap.size → Fo ((B, xs) :: σ) G b → Fo σ G b := fun b hb hd => by
    rcases hd with hd | hd
    · rw [dom_cons] at hd
      rcases hd with hd | hd
      · simp only at hd; omega
      · exact .inl hd
    · exact .inr hd
  refine ⟨⟨fun p hp => ?_, ?_⟩, hF⟩
  · rcases List.mem_cons.1 hp with rfl | hp
    · exact h1
    · have hl := (h.1 p hp).lt
      exact (h.1 p hp).stay (hst.mono (fun _ _ hf => hf.elim)) hF (hst.2 _ hl (fun hf => hf))
  · simp only [List.map_cons, List.nodup_cons]
    refine ⟨fun hm => ?_, h.2⟩
    have := h.lt (dom_map.2 hm)
    omega
end

/-! ### Elements of a block, cell by cell -/
structure CellsAt (w : World) (F : Nat → Prop) (sz : Nat) (es : List LV) (cs : Array Value) : Prop where
  size : es.length * sz ≤ cs.size
  len : ∀ (i : Nat) (x : LV), es[i]? = some x → x.cells.length = sz
  cell : ∀ (i : Nat) (x : LV) (j : Nat) (c : LV), es[i]? = some x → x.cells[j]? = some c → c.one = true ∧ ∃ v, cs[i * sz + j]? = some v ∧ VR w F c v

theorem CellsAt.holds1 {w : World} {F : Nat → Prop} {es : List LV} {cs : Array Value} {B : Blk} {e : TypeId} (h : CellsAt w F B.sz es cs) (hb : w.heap[B.b]? = some (.cells cs e (0, 0))) (hr : cs.size = B.room) : Holds1 w F (B, es) :=
  ⟨cs, e, hb, hr, h.len, h.cell⟩

theorem Holds1.cellsAt {w : World} {F : Nat → Prop} {p : Blk × List LV} (h : Holds1 w F p) : ∃ cs e, w.heap[p.1.b]? = some (.cells cs e (0, 0)) ∧ cs.size = p.1.room ∧ (∀ (i : Nat) (x : LV), p.2[i]? = some x → x.cells.length = p.1.sz) ∧
    (0 < p.1.sz → CellsAt w F p.1.sz p.2 cs) := by
  obtain ⟨cs, e, h1, h2, h3, h4⟩ := h
  refine ⟨cs, e, h1, h2, h3, fun hsz => ⟨?_, h3, h4⟩⟩
  by_cases hn : p.2.length = 0
  · simp [hn]
  · have hi : p.2.length - 1 < p.2.length := by omega
    have hx := List.getElem?_eq_getElem hi
    have hl := h3 _ _ hx
    have hj : p.1.sz - 1 < (p.2[p.2.length - 1]).cells.length := by omega
    obtain ⟨_, v, hv, _⟩ := h4 _ _ _ _ hx (List.getElem?_eq_getElem hj)
    have hlt := (Array.getElem?_eq_some_iff.1 hv).1
    have e1 : p.2.length * p.1.sz = (p.2.length - 1) * p.1.sz + p.1.sz := by
      have : p.2.length = (p.2.length - 1) + 1 := by omega
      conv => lhs; rw [this, Nat.add_mul, Nat.one_mul]
    omega

theorem CellsAt.stay {w w' : World} {F F' : Nat → Prop} {sz : Nat} {es : List LV} {cs : Array Value} (h : CellsAt w F sz es cs) (hs : Still F w w') (hF : ∀ b, b < w.heap.size → F' b → F b) : CellsAt w' F' sz es cs :=
  ⟨h.size, h.len, fun i x j c hx hc => by
    obtain ⟨ho, v, hv, hr⟩ := h.cell i x j c hx hc
    exact ⟨ho, v, hv, hr.stay hs hF⟩⟩

/-- Cells of a part are written: the part's element is set. -/
theorem mul_sep {i k sz j l : Nat} (hj : j < sz) (hl : l < sz) (h : i * sz + j = k * sz + l) : i = k ∧ j = l := by
  have hp : 0 < sz := by omega
  have h1 : (i * sz + j) / sz = i := by rw [Nat.mul_comm, Nat.mul_add_div hp, Nat.div_eq_of_lt hj, Nat.add_zero]
  have h2 : (k * sz + l) / sz = k := by rw [Nat.mul_comm, Nat.mul_add_div hp, Nat.div_eq_of_lt hl, Nat.add_zero]
  have h3 : i = k := by rw [← h1, ← h2, h]
  subst h3
  exact ⟨rfl, by omega⟩

def fillE (sz : Nat) (k : List LV → Prop) : List LV → List (Nat × LV) → Prop
  | es, [] => k es
  | es, (i, x) :: rest => i < es.length ∧ x.cells.length = sz ∧ x.cells.all LV.one = true ∧ fillE sz k (es.set i x) rest

theorem CellsAt.set {w : World} {F : Nat → Prop} {sz : Nat} {es : List LV} {cs : Array Value} (h : CellsAt w F sz es cs) {i : Nat} {x : LV} {vs : Array Value} (hi : i < es.length) (hl : x.cells.length = sz) (hx : CellsAre w F x.cells vs) (cs' : Array Value)
    (hs : cs'.size = cs.size) (hc : ∀ q, cs'[q]? = if i * sz ≤ q ∧ q < i * sz + sz then vs[q - i * sz]? else cs[q]?) : CellsAt w F sz (es.set i x) cs' := by
  refine ⟨by rw [hs, List.length_set]; exact h.size, fun k y hk => ?_, fun k y j c hk hj => ?_⟩
  · rw [List.getElem?_set] at hk
    split at hk
    · cases hk; exact hl
    · exact h.len k y hk
  · rw [List.getElem?_set] at hk
    split at hk
    · rename_i e
      subst e
      cases hk
      have hjs : j < sz := by rw [← hl]; exact (List.getElem?_eq_some_iff.1 hj).1
      obtain ⟨u, hu, hr⟩ := hx.2.2 j c hj
      refine ⟨hx.2.1 c (List.mem_of_getElem? hj), u, ?_, hr⟩
      rw [hc, if_pos (by omega), Nat.add_sub_cancel_left]
      exact hu
    · rename_i hne
      obtain ⟨ho, v, hv, hr⟩ := h.cell k y j c hk hj
      refine ⟨ho, v, ?_, hr⟩
      have hjs : j < sz := by rw [← h.len k y hk]; exact (List.getElem?_eq_some_iff.1 hj).1
      rw [hc, if_neg]
      · exact hv
      · rintro ⟨h1, h2⟩
        have : k * sz + j = i * sz + (k * sz + j - i * sz) := by omega
        have := mul_sep hjs (by omega) this
        exact hne this.1.symm

theorem fillE_sound {w : World} {F : Nat → Prop} {sz : Nat} {k : List LV → Prop} : ∀ (ps : List (Nat × LV)) (qs : List (Nat × Value)) (es : List LV) (cs : Array Value),
    ps.length = qs.length → (∀ (i : Nat) (p : Nat × LV) (q : Nat × Value), ps[i]? = some p → qs[i]? = some q → p.1 = q.1 ∧ VR w F p.2 q.2) → CellsAt w F sz es cs → fillE sz k es ps →
    ∃ es' cs', k es' ∧ Instr.fill (fun i => some (i * sz, sz)) cs qs = some cs' ∧ CellsAt w F sz es' cs' ∧ cs'.size = cs.size ∧ es'.length = es.length
  | [], [], es, cs, _, _, hc, h => ⟨es, cs, h, rfl, hc, rfl, rfl⟩
  | [], _ :: _, _, _, hl, _, _, _ => by simp at hl
  | _ :: _, [], _, _, hl, _, _, _ => by simp at hl
  | (i, x) :: ps, (i', v) :: qs, es, cs, hl, hpq, hc, h => by
    obtain ⟨h0, hv⟩ := hpq 0 _ _ rfl rfl
    simp only at h0 hv
    subst h0
    obtain ⟨h1, h2, h3, h⟩ := h
    have hx := hv.cellsAre h3
    have hsz : v.cells.size = sz := by rw [← hx.1]; exact h2
    have key := foldl_set v.cells.toList (i * sz) 0 cs
    have hfold : (v.cells.zipIdx.foldl (fun cs (p : Value × Nat) => cs.setIfInBounds (i * sz + p.2) p.1) cs) = ((v.cells.toList.zipIdx 0).foldl (fun cs (p : Value × Nat) => cs.setIfInBounds (i * sz + p.2) p.1) cs) := by
      rw [← Array.foldl_toList, Array.toList_zipIdx]
    have hle : i * sz + sz ≤ cs.size := by
      have := hc.size
      have : (i + 1) * sz ≤ es.length * sz := Nat.mul_le_mul_right _ h1
      rw [Nat.add_mul, Nat.one_mul] at this
      omega
    have hnew : CellsAt w F sz (es.set i x) (v.cells.zipIdx.foldl (fun cs (p : Value × Nat) => cs.setIfInBounds (i * sz + p.2) p.1) cs) := by
      rw [hfold]
      refine hc.set h1 h2 hx _ key.1 fun q => ?_
      rw [key.2 q]
      simp only [Nat.add_zero, Array.length_toList, hsz]
      by_cases hq : i * sz ≤ q ∧ q < i * sz + sz
      · rw [if_pos ⟨hq.1, hq.2, by omega⟩, if_pos hq]
        simp
      · rw [if_neg (by omega), if_neg hq]
    obtain ⟨es', cs', hk, hf, hcc, hs1, hs2⟩ := fillE_sound ps qs _ _ (by simpa using hl) (fun i p q hp hq => hpq (i + 1) p q (by simpa using hp) (by simpa using hq)) hnew h
    refine ⟨es', cs', hk, ?_, hcc, ?_, by simpa using hs2⟩
    · unfold Instr.fill
      have hno : ¬ (v.cells.size ≠ sz ∨ i * sz + v.cells.size > cs.size) := by omega
      simp only
      rw [if_neg (by simpa using hno)]
      exact hf
    · rw [hs1, hfold, key.1]

end Go.Ls
