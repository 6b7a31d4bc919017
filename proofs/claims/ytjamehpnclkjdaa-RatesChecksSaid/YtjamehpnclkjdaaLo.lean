/- A small program logic over the kit's machine, part o: memory that is lent, memory that is read from now on. It bears no statement of its own. -/
import Derived.Test.YtjamehpnclkjdaaLn
namespace Go.Ls
open Go
set_option linter.unusedVariables false
set_option linter.unusedSimpArgs false

/-- It says nothing of memory that is only read. -/
inductive Plain : LV → Prop
  | val (v : Value) : Plain (.val v)
  | agg {cs : List LV} (h : ∀ (i : Nat) (c : LV), cs[i]? = some c → Plain c) : Plain (.agg cs)
  | tup {cs : List LV} (h : ∀ (i : Nat) (c : LV), cs[i]? = some c → Plain c) : Plain (.tup cs)
  | msl {B : Blk} {off n : Nat} : Plain (.msl B off n)
  | ref {B : Blk} {i j : Nat} : Plain (.ref B i j)
  | any : Plain .any

theorem VR.grow {w : World} {F F' : Nat → Prop} {x : LV} {v : Value} (h : VR w F x v) : Plain x → VR w F' x v := by
  induction h with
  | val v => exact fun _ => .val v
  | agg hl _ ih => exact fun hp => .agg hl fun i c v h1 h2 => ih i c v h1 h2 (by cases hp with | agg h => exact h i c h1)
  | tup hl _ ih => exact fun hp => .tup hl fun i c v h1 h2 => ih i c v h1 h2 (by cases hp with | tup h => exact h i c h1)
  | nil => exact fun hp => by cases hp
  | ro => exact fun hp => by cases hp
  | adr => exact fun hp => by cases hp
  | msl hc hm hr => exact fun _ => .msl hc hm hr
  | ref => exact fun _ => .ref
  | fn => exact fun hp => by cases hp
  | any v => exact fun _ => .any v

def PlainHeap (σ : Heap) : Prop := ∀ p ∈ σ, ∀ (i : Nat) (x : LV), p.2[i]? = some x → ∀ (j : Nat) (c : LV), x.cells[j]? = some c → Plain c

theorem Holds1.grow {w : World} {F F' : Nat → Prop} {p : Blk × List LV} (h : Holds1 w F p) (hp : ∀ (i : Nat) (x : LV), p.2[i]? = some x → ∀ (j : Nat) (c : LV), x.cells[j]? = some c → Plain c) : Holds1 w F' p := by
  obtain ⟨cs, e, h1, h2, h3, h4⟩ := h
  refine ⟨cs, e, h1, h2, h3, fun i x j c hi hj => ?_⟩
  obtain ⟨ho, v, hv, hr⟩ := h4 i x j c hi hj
  exact ⟨ho, v, hv, hr.grow (hp i x hi j c hj)⟩

/-- A call that is shown what is one's own; it is given back. -/
theorem LCalls.lend {P : Program} {f : FuncId} {xs ys : List LV} {σ : Heap} {R : LV → Heap → Prop} (h : LCalls P f ys [] R) (hv : Views σ [] xs ys) (hpl : ∀ r σ', R r σ' → Plain r ∧ PlainHeap σ') :
    LCalls P f xs σ fun r σ' => ∃ σ1, σ' = σ1 ++ σ ∧ R r σ1 := by
  refine ⟨h.1, fun G w vs hG hh hl hx => ?_⟩
  refine (h.2 G w vs (fun b hb => ⟨(hG b hb).1, fun hd => dom_nil hd⟩) ⟨fun p hp => by simp at hp, by simp⟩ (by rw [← hl, hv.length]) fun i y v hy hvv => ?_).mono fun e w' hp => ?_
  · have hi : i < xs.length := by rw [hv.length]; exact (List.getElem?_eq_some_iff.1 hy).1
    exact (hv.get i _ y (List.getElem?_eq_getElem hi) hy).2 w G v (fun b hb => (hG b hb).2) hh (hx i _ v (List.getElem?_eq_getElem hi) hvv)
  · obtain ⟨v, x, σ', he, hR, h1, h2, h3⟩ := hp
    obtain ⟨hp1, hp2⟩ := hpl x σ' hR
    have hnew : ∀ b, dom σ' b → ¬ b < w.heap.size := fun b hb hlt => dom_nil (h3.own b hb hlt)
    refine ⟨v, x, σ' ++ σ, he, ⟨σ', rfl, hR⟩, ⟨fun p hp => ?_, ?_⟩, h2.grow hp1, ⟨h3.os, h3.tape, h3.output, h3.still.mono fun b _ h => (dom_nil h).elim, fun b hb hlt => ?_⟩⟩
    · rcases List.mem_append.1 hp with hp | hp
      · exact (h1.1 p hp).grow (hp2 p hp)
      · have h0 := hh.1 p hp
        refine h0.stay (h3.still.mono fun b _ h => (dom_nil h).elim) (fun b hlt hb => ?_) (h3.still.2 _ h0.lt (fun h => dom_nil h))
        rcases hb with hb | hb
        · rw [dom_append] at hb
          exact .inl (hb.resolve_left fun hb => hnew b hb hlt)
        · exact .inr hb
    · rw [List.map_append, List.nodup_append]
      refine ⟨h1.2, hh.2, fun b hb c hc e => ?_⟩
      subst e
      exact hnew b (dom_map.2 hb) (hh.lt (dom_map.2 hc))
    · rw [dom_append] at hb
      exact hb.resolve_left fun hb => hnew b hb hlt

/-- A call that is lent a part. -/
theorem call_lend {P : Program} {M : Nat → Prop} {f : FuncId} {xs ys : List LV} {σ : Heap} {k : LV → Heap → Prop} {t : Tk k} {R : LV → Heap → Prop} (σ1 τ : Heap) (hp : σ.Perm (σ1 ++ τ)) (hM : ∀ b, dom σ1 b → M b) (hv : Views σ1 [] xs ys) (h : LCalls P f ys [] R)
    (hpl : ∀ r σ', R r σ' → Plain r ∧ PlainHeap σ') (hk : ∀ r σ', R r σ' → k r (σ' ++ σ1 ++ τ)) : clH t P M σ f xs :=
  ⟨σ1, τ, hp, hM, (h.lend hv hpl).mono fun r σ' ⟨σ2, he, hr⟩ => by subst he; exact hk r σ2 hr⟩
theorem call_lend_pure {P : Program} {M : Nat → Prop} {f : FuncId} {xs ys : List LV} {σ : Heap} {k : LV → Heap → Prop} {t : Tk k} {r : LV} (σ1 τ : Heap) (hp : σ.Perm (σ1 ++ τ)) (hM : ∀ b, dom σ1 b → M b) (hv : Views σ1 [] xs ys) (h : Pure P f ys r)
    (hpl : Plain r) (hk : k r (σ1 ++ τ)) : clH t P M σ f xs :=
  call_lend σ1 τ hp hM hv h (fun r' σ' ⟨h1, h2⟩ => by subst h1; subst h2; exact ⟨hpl, fun p hp => by simp at hp⟩) (fun r' σ' ⟨h1, h2⟩ => by subst h1; subst h2; exact hk)

/-! ### Views -/
theorem View.trans {σ τ ρ : Heap} {x y z : LV} (h : View σ τ x y) (k : View τ ρ y z) : View σ ρ x z :=
  ⟨k.1.trans h.1, fun w G v hG hh hv => k.2 w G v (fun b hb hd => hG b hb (h.1.dom hd)) (hh.sub h.1) (h.2 w G v hG hh hv)⟩
theorem Views.one {σ τ : Heap} {x y : LV} (h : View σ τ x y) : Views σ τ [x] [y] := ⟨h, trivial⟩
theorem Views.at' {σ τ : Heap} : ∀ {xs ys : List LV}, xs.length = ys.length → (∀ (i : Nat) (x y : LV), xs[i]? = some x → ys[i]? = some y → View σ τ x y) → Views σ τ xs ys
  | [], [], _, _ => trivial
  | x :: xs, y :: ys, hl, h => ⟨h 0 x y rfl rfl, Views.at' (by simpa using hl) fun i x y h1 h2 => h (i + 1) x y (by simpa using h1) (by simpa using h2)⟩
  | [], _ :: _, hl, _ => by simp at hl
  | _ :: _, [], hl, _ => by simp at hl
theorem View.agg {σ τ : Heap} {xs ys : List LV} (hs : Sub τ σ) (h : Views σ τ xs ys) : View σ τ (.agg xs) (.agg ys) := by
  refine ⟨hs, fun w G v hG hh hv => ?_⟩
  cases hv with
  | agg hl hc =>
    refine .agg (by rw [← hl, h.length]) fun i c u h1 h2 => ?_
    have hi : i < xs.length := by rw [h.length]; exact (List.getElem?_eq_some_iff.1 h1).1
    exact (h.get i _ c (List.getElem?_eq_getElem hi) h1).2 w G u hG hh (hc i _ u (List.getElem?_eq_getElem hi) h2)

/-- An address in an owned block, from now on only read. -/
theorem View.adr {σ τ : Heap} {B : Blk} {xs : List LV} {ys : List LV} (hp : Sub ((B, xs) :: τ) σ) {i j : Nat} {x : LV} (hx : xs[i]? = some x) (hl : ys.length + j ≤ x.cells.length)
    (hs : ∀ (l : Nat) (c d : LV), x.cells[j + l]? = some c → ys[l]? = some d → d.one = true ∧ View σ τ c d) : View σ τ (.ref B i j) (.adr ys) := by
  have hsub : Sub τ σ := (Sub.skip _ (Sub.refl τ)).trans hp
  refine ⟨hsub, fun w G v hG hh hv => ?_⟩
  cases hv with
  | ref =>
    obtain ⟨ρ, hperm⟩ := hp
    have hmem : (B, xs) ∈ σ := hperm.mem_iff.2 (by simp)
    obtain ⟨cs, e, hb, hroom, hlen, hcell⟩ := hh.1 _ hmem
    simp only at hb hroom hlen hcell
    have hbl : B.b < w.heap.size := (Array.getElem?_eq_some_iff.1 hb).1
    have hnot : ¬ Fo τ G B.b := by
      rintro (h | h)
      · have hn := (hperm.map (·.1.b)).nodup_iff.1 hh.2
        simp only [List.cons_append, List.map_cons, List.nodup_cons, List.map_append, List.mem_append] at hn
        exact hn.1 (.inl (dom_map.1 h))
      · exact hG _ h ⟨_, hmem, rfl⟩
    refine .adr (fun l => cs.getD (i * B.sz + (j + l)) undef) hnot hbl (fun l d hd => ?_) (fun l d hd => ?_) (fun l d hd => ?_)
    all_goals
      have hll : j + l < x.cells.length := by
        have := (List.getElem?_eq_some_iff.1 hd).1
        omega
      have hc' := List.getElem?_eq_getElem hll
      obtain ⟨ho, u, hu, hvr⟩ := hcell i x (j + l) _ hx hc'
      have hgd : cs.getD (i * B.sz + (j + l)) undef = u := by simp [Array.getD_eq_getD_getElem?, hu]
    · exact (hs l _ d hc' hd).1
    · simp only [World.cell?, hb, hgd]
      rw [Nat.add_assoc]
      simpa using hu
    · rw [hgd]
      exact (hs l _ d hc' hd).2.2 w G u hG hh hvr

theorem View.box {τ : Heap} {B : Blk} {x : LV} (ho : x.cells.all LV.one = true) : View ((B, [x]) :: τ) τ (.ref B 0 0) (.adr x.cells) := by
  refine View.adr (Sub.refl _) (i := 0) (j := 0) (x := x) rfl (by simp) fun l c d hc hd => ?_
  rw [Nat.zero_add, hd] at hc
  cases hc
  exact ⟨List.all_eq_true.1 ho _ (List.mem_of_getElem? hd), View.of_sub (Sub.skip _ (Sub.refl _))⟩

/-! ### Heaps -/
/-- Some cells of an owned block by views of them. -/
theorem HV.cells {σ τ : Heap} {B : Blk} {xs ys : List LV} (hp : Sub ((B, xs) :: τ) σ) (hl : ys.length ≤ xs.length)
    (hs : ∀ (i : Nat) (x y : LV), xs[i]? = some x → ys[i]? = some y → x.cells.length = y.cells.length ∧ ∀ (j : Nat) (c d : LV), x.cells[j]? = some c → y.cells[j]? = some d → d.one = true ∧ View σ ((B, xs) :: τ) c d) : HV σ ((B, ys) :: τ) := by
  have hd : ∀ b, dom ((B, ys) :: τ) b → dom σ b := fun b hb => hp.dom (by rw [dom_cons] at hb ⊢; exact hb)
  refine ⟨hd, fun w G hG hh => ?_⟩
  have hh' := hh.sub hp
  refine ⟨fun p hm => ?_, hh'.2⟩
  rcases List.mem_cons.1 hm with rfl | hm
  · obtain ⟨ρ, hperm⟩ := hp
    obtain ⟨cs, e, hb, hroom, hlen, hcell⟩ := hh.1 _ (hperm.mem_iff.2 (List.mem_append_left _ List.mem_cons_self))
    have get : ∀ {i : Nat} {y : LV}, ys[i]? = some y → ∃ x, xs[i]? = some x := fun {i y} hy => by
      have : i < xs.length := Nat.lt_of_lt_of_le (List.getElem?_eq_some_iff.1 hy).1 hl
      exact ⟨_, List.getElem?_eq_getElem this⟩
    refine ⟨cs, e, hb, hroom, fun i y hy => ?_, fun i y j d hy hd => ?_⟩
    all_goals
      obtain ⟨x, hx⟩ := get hy
      obtain ⟨h1, h2⟩ := hs i x y hx hy
    · rw [← h1]
      exact hlen i x hx
    · have hjl : j < x.cells.length := by rw [h1]; exact (List.getElem?_eq_some_iff.1 hd).1
      obtain ⟨ho, v, hv, hr⟩ := hcell i x j _ hx (List.getElem?_eq_getElem hjl)
      obtain ⟨g1, g2⟩ := h2 j _ d (List.getElem?_eq_getElem hjl) hd
      exact ⟨g1, v, hv, (g2.2 w G v hG hh hr).shrink fun b hb => hb.imp (fun h => by rw [dom_cons] at h ⊢; exact h) _root_.id⟩
  · exact (hh'.1 p (List.mem_cons_of_mem _ hm)).stay (Still.refl w) (fun b _ hb => by
      rcases hb with hb | hb
      · exact .inl (by rw [dom_cons] at hb ⊢; exact hb)
      · exact .inr hb) rfl

theorem WC.hv {P : Program} {n : Nat} {c : Code} {fr : Fr} {σ τ : Heap} {K : Exit → Fr → Heap → Prop} (hs : HV σ τ) (h : Box (Tk.mk : Tk (WC P n c fr τ K))) : Box (Tk.mk : Tk (WC P n c fr σ K)) :=
  fun hfit w0 D0 G a w hR => h hfit w0 D0 G a w (hR.hv hs)

/-- A result by a view of it. -/
theorem LCalls.seen {P : Program} {f : FuncId} {xs : List LV} {σ : Heap} {R R' : LV → Heap → Prop} (h : LCalls P f xs σ R) (hr : ∀ x σ', R x σ' → ∃ y τ, View σ' τ x y ∧ R' y τ) : LCalls P f xs σ R' := by
  refine ⟨h.1, fun G w vs hG hh hl hx => (h.2 G w vs hG hh hl hx).mono fun e w' hp => ?_⟩
  obtain ⟨v, x, σ', he, hR, h1, h2, h3⟩ := hp
  obtain ⟨y, τ, hv, hR'⟩ := hr x σ' hR
  have hG' : ∀ b, G b → ¬ dom σ' b := fun b hb hd => (hG b hb).2 (h3.own b hd (hG b hb).1)
  exact ⟨v, y, τ, he, hR', h1.sub hv.1, hv.2 w' G v hG' h1 h2, ⟨h3.os, h3.tape, h3.output, h3.still, fun b hb hlt => h3.own b (hv.1.dom hb) hlt⟩⟩
end Go.Ls
