/- A small program logic over the kit's machine, part j: a row of operations, in the text's order and in any order. It bears no statement of its own. -/
import Derived.Test.YtjamehpnclkjdaaLi
import Derived.Test.YtjamehpnclkjdaaWLast
namespace Go.Ls
open Go
open Go.Proofs.YtjamehpnclkjdaaW.PrintLast
set_option linter.unusedVariables false
set_option linter.unusedSimpArgs false

def put (fr : Fr) (d : Option Tmp) (x : LV) : Fr := match d with
  | some d => fun t => if t = d then x else fr t
  | none => fr

def active : Op → Bool
  | .alloc _ | .box .. | .buildSlice .. | .makeSlice .. | .store .. => true
  | .call { callee := .builtin .append, .. } => true
  | .call { callee := .value _, .. } => true
  | _ => false

/-- An operation carried out; M: the blocks that it may write. -/
def wrun (P : Program) (Mr Mw : Nat → Prop) (o : Oper) (fr : Fr) (σ : Heap) (K : Fr → Heap → Prop) : Prop :=
  if active o.op then av P Mw σ (ev fr) (fun x σ' => K (put fr o.dst x) σ') o.op else pv P Mr σ (ev fr) (fun x => K (put fr o.dst x) σ) o.op

/-- An operation, by its guard. -/
def wop (P : Program) (Mr Mw : Nat → Prop) (ops : Array Oper) (o : Oper) (fr : Fr) (σ : Heap) (K : Fr → Heap → Prop) : Prop :=
  match o.guard with
  | none => wrun P Mr Mw o fr σ K
  | some (g, want) => match (ops[g]?).bind (·.dst) with
    | some t => match fr t with
      | .val (.bool b) => (b = want → wrun P Mr Mw o (put fr (some t) (.val (.bool want))) σ K) ∧ (b = !want → K (put (put fr (some t) (.val (.bool !want))) o.dst (.val undef)) σ)
      | .val (.tuple _) => K (put fr o.dst (.val undef)) σ
      | _ => False
    | none => False

/-- A row of operations, in the text's order. -/
def wops (P : Program) (ops : Array Oper) : List Oper → Fr → Heap → (Fr → Heap → Prop) → Prop
  | [], fr, σ, K => K fr σ
  | o :: rest, fr, σ, K => wop P (fun _ => False) (fun _ => True) ops o fr σ fun fr σ => wops P ops rest fr σ K

def dstOk (n : Nat) (o : Oper) : Bool := match o.dst with
  | some d => decide (d < n)
  | none => true

section
variable {P : Program} {n : Nat} {w0 : World} {D0 G : Nat → Prop} {fr : Fr} {σ σ' : Heap} {a : Act} {w w' : World} {M Mr Mw : Nat → Prop}

theorem Rel.next (hR : Rel n w0 D0 G fr σ a w) {x : LV} {v : Value} (hn : Next w w' M G σ σ' x v) {dst : Option Tmp} (hd : ∀ d, dst = some d → d < n) : Rel n w0 D0 G (put fr dst x) σ' (a.put dst v) w' := by
  have hF : ∀ b, b < w.heap.size → Fo σ' G b → Fo σ G b := fun b hb h => h.imp (fun h => hn.step.own b h hb) id
  have hS : Still (Fo σ G) w w' := hn.step.still.mono (fun b _ h => .inl h)
  cases dst with
  | none => exact ⟨hR.defers, hR.size, fun t => (hR.frame t).stay hS hF, hn.holds, hR.shut, hR.step.trans hn.step⟩
  | some d =>
    have hdn := hd d rfl
    refine ⟨hR.defers, by simp [Act.put, hR.size], fun t => ?_, hn.holds, hR.shut, hR.step.trans hn.step⟩
    by_cases ht : t = d
    · subst ht
      have e : (a.put (some t) v).tmps.getD t undef = v := by
        have : t < a.tmps.size := by rw [hR.size]; exact hdn
        simp [Act.put, this]
      rw [e]
      simp only [put, if_pos]
      exact hn.vr
    · have e : (a.put (some d) v).tmps.getD t undef = a.tmps.getD t undef := by
        simp [Act.put, Array.getElem?_setIfInBounds_ne (Ne.symm ht)]
      rw [e]
      simp only [put, if_neg ht]
      exact (hR.frame t).stay hS hF

theorem Rel.same (hR : Rel n w0 D0 G fr σ a w) {x : LV} {v : Value} (hv : VR w (Fo σ G) x v) : Next w w M G σ σ x v := ⟨hR.holds, hv, Step.refl _ _, Still.refl _⟩

theorem put_self {fr : Fr} {t : Nat} {x : LV} (h : fr t = x) : put fr (some t) x = fr := by
  funext s
  simp only [put]
  split
  · rename_i e; subst e; exact h.symm
  · rfl

theorem Rel.drew (hR : Rel n w0 D0 G fr σ a w) : Rel n w0 D0 G fr σ a w.drew :=
  have hs : ∀ {M : Nat → Prop}, Still M w w.drew := ⟨Nat.le_refl _, fun _ _ _ => rfl⟩
  ⟨hR.defers, hR.size, fun t => (hR.frame t).stay hs (fun _ _ h => h), ⟨fun p hp => (hR.holds.1 p hp).stay hs (fun _ _ h => h) rfl, hR.holds.2⟩, hR.shut, ⟨hR.step.os, hR.step.tape, hR.step.output, hR.step.still, hR.step.own⟩⟩

/-- What the machine finds at a guard. -/
theorem yielded_of (hR : Rel n w0 D0 G fr σ a w) {ops : Array Oper} {g t : Nat} {b : Bool} (ht : (ops[g]?).bind (·.dst) = some t) (hf : fr t = .val (.bool b)) : yielded ops a.tmps g = some b := by
  have h := hR.frame t
  rw [hf] at h
  generalize hv : a.tmps.getD t undef = v at h
  cases h
  unfold yielded
  simp only [ht, Option.bind_some]
  have : a.tmps[t]? = some (.bool b) := by
    rw [Array.getD_eq_getD_getElem?] at hv
    cases hx : a.tmps[t]? with
    | none => rw [hx] at hv; simp [undef] at hv
    | some y => rw [hx] at hv; simp at hv; rw [hv]
  simp [this]

/-- No Bool at a guard: the operation is not carried out. -/
theorem yielded_no (hR : Rel n w0 D0 G fr σ a w) {ops : Array Oper} {g t : Nat} {vs : Array Value} (ht : (ops[g]?).bind (·.dst) = some t) (hf : fr t = .val (.tuple vs)) : yielded ops a.tmps g = none := by
  have h := hR.frame t
  rw [hf] at h
  generalize hv : a.tmps.getD t undef = v at h
  cases h
  unfold yielded
  simp only [ht, Option.bind_some]
  rw [Array.getD_eq_getD_getElem?] at hv
  cases hx : a.tmps[t]? with
  | none => simp
  | some y => rw [hx] at hv; simp at hv; subst hv; simp

theorem wrun_wp (hR : Rel n w0 D0 G fr σ a w) {o : Oper} (hd : dstOk n o = true) {K : Fr → Heap → Prop} (h : wrun P (fun _ => False) Mw o fr σ K) {Kp : Act → World → Prop} {Q : Exit → Act → World → Prop}
    (hK : ∀ fr' σ' a' w', K fr' σ' → Rel n w0 D0 G fr' σ' a' w' → Still Mw w w' → Kp a' w') : o.wp P a w Kp Q := by
  have hd' : ∀ d, o.dst = some d → d < n := fun d h => by unfold dstOk at hd; rw [h] at hd; simpa using hd
  unfold wrun at h
  split at h
  · exact av_sound (M := Mw) hR h fun x σ' v w' hk hn => hK _ _ _ _ hk (hR.next hn hd') hn.still
  · obtain ⟨v, x, hk, hv, hrun⟩ := pv_sound hR (fun _ h => h.elim) h (fun w' => w' = w) (fun _ w' hw => by subst hw; exact Still.refl _)
    unfold Oper.wp
    rw [hrun w rfl]
    simp only [Oper.upon]
    exact hK _ _ _ _ hk (hR.next (hR.same (M := Mw) hv) hd') (Still.refl w)

theorem wops_sound {ops : Array Oper} {K : Fr → Heap → Prop} {Q : Exit → Act → World → Prop} (hK : ∀ fr' σ' a' w', K fr' σ' → Rel n w0 D0 G fr' σ' a' w' → Q .normal a' w') :
    ∀ (l : List Oper) (fr : Fr) (σ : Heap) (a : Act) (w : World), l.all (dstOk n) = true → wops P ops l fr σ K → Rel n w0 D0 G fr σ a w → wpList P ops Q l a w
  | [], fr, σ, a, w, _, h, hR => hK _ _ _ _ h hR
  | o :: l, fr, σ, a, w, hd, h, hR => by
    simp only [List.all_cons, Bool.and_eq_true] at hd
    unfold wops wop at h
    unfold wpList
    have go : ∀ {fr σ}, Rel n w0 D0 G fr σ a w → wrun P (fun _ => False) (fun _ => True) o fr σ (fun fr σ => wops P ops l fr σ K) → o.wp P a w (wpList P ops Q l) Q := fun hR h =>
      wrun_wp hR hd.1 h fun fr' σ' a' w' hk hR' _ => wops_sound hK l fr' σ' a' w' hd.2 hk hR'
    cases hg : o.guard with
    | none =>
      rw [hg] at h
      have hw : Region.wanted o (yielded ops a.tmps) = true := by simp [Region.wanted, hg]
      rw [if_pos hw]
      exact .inl (go hR h)
    | some gw =>
      obtain ⟨g, want⟩ := gw
      rw [hg] at h
      simp only at h
      split at h
      · rename_i t ht
        split at h
        · rename_i b hf
          have hy := yielded_of hR ht hf
          by_cases hb : b = want
          · subst hb
            have hw : Region.wanted o (yielded ops a.tmps) = true := by simp [Region.wanted, hg, hy]
            rw [if_pos hw]
            have h1 := h.1 rfl
            rw [put_self hf] at h1
            exact .inl (go hR h1)
          · have hb' : b = !want := by cases b <;> cases want <;> simp_all
            have hw : Region.wanted o (yielded ops a.tmps) = false := by simp [Region.wanted, hg, hy, hb]
            rw [hw, if_neg (by simp)]
            have h1 := h.2 hb'
            rw [put_self (hb' ▸ hf)] at h1
            refine wops_sound hK l _ _ _ _ hd.2 h1 (hR.next (hR.same (M := fun _ => True) (.val undef)) fun d h => ?_)
            have hd1 := hd.1
            unfold dstOk at hd1
            rw [h] at hd1
            simpa using hd1
        · rename_i vs hf
          have hy := yielded_no hR ht hf
          have hw : Region.wanted o (yielded ops a.tmps) = false := by simp [Region.wanted, hg, hy]
          rw [hw, if_neg (by simp)]
          refine wops_sound hK l _ _ _ _ hd.2 h (hR.next (hR.same (M := fun _ => True) (.val undef)) fun d h => ?_)
          have hd1 := hd.1
          unfold dstOk at hd1
          rw [h] at hd1
          simpa using hd1
        · exact h.elim
      · exact h.elim

/-- A row of operations in the text's order; gm: what has been seen of the operations' destinations (for the guards). -/
def wopsI (P : Program) : Nat → (Nat → Option Tmp) → List Oper → Fr → Heap → (Fr → Heap → Prop) → Prop
  | _, _, [], fr, σ, K => K fr σ
  | i, gm, o :: rest, fr, σ, K => match o.guard with
    | none => wrun P (fun _ => False) (fun _ => True) o fr σ fun fr σ => wopsI P (i + 1) (fun j => if j = i then o.dst else gm j) rest fr σ K
    | some (g, want) => match gm g with
      | some t => match fr t with
        | .val (.bool b) => (b = want → wrun P (fun _ => False) (fun _ => True) o (put fr (some t) (.val (.bool want))) σ fun fr σ => wopsI P (i + 1) (fun j => if j = i then o.dst else gm j) rest fr σ K) ∧
            (b = !want → wopsI P (i + 1) (fun j => if j = i then o.dst else gm j) rest (put (put fr (some t) (.val (.bool !want))) o.dst (.val undef)) σ K)
        | .val (.tuple _) => wopsI P (i + 1) (fun j => if j = i then o.dst else gm j) rest (put fr o.dst (.val undef)) σ K
        | _ => False
      | none => False

theorem wopsI_sound {ops : Array Oper} {K : Fr → Heap → Prop} {Q : Exit → Act → World → Prop} (hK : ∀ fr' σ' a' w', K fr' σ' → Rel n w0 D0 G fr' σ' a' w' → Q .normal a' w') :
    ∀ (l : List Oper) (i : Nat) (gm : Nat → Option Tmp) (fr : Fr) (σ : Heap) (a : Act) (w : World), (∀ j, l[j]? = ops[i + j]?) → (∀ j t, gm j = some t → (ops[j]?).bind (·.dst) = some t) → l.all (dstOk n) = true → wopsI P i gm l fr σ K → Rel n w0 D0 G fr σ a w → wpList P ops Q l a w
  | [], i, gm, fr, σ, a, w, _, _, _, h, hR => hK _ _ _ _ h hR
  | o :: l, i, gm, fr, σ, a, w, hl, hgm, hd, h, hR => by
    simp only [List.all_cons, Bool.and_eq_true] at hd
    unfold wopsI at h
    unfold wpList
    have ho : ops[i]? = some o := by rw [← Nat.add_zero i, ← hl 0]; rfl
    have hl' : ∀ j, l[j]? = ops[i + 1 + j]? := fun j => by
      have := hl (j + 1)
      rw [List.getElem?_cons_succ] at this
      rw [this]
      congr 1
      omega
    have hgm' : ∀ j t, (if j = i then o.dst else gm j) = some t → (ops[j]?).bind (·.dst) = some t := fun j t hj => by
      split at hj
      · rename_i e; subst e; rw [ho]; exact hj
      · exact hgm j t hj
    have go : ∀ {fr σ}, Rel n w0 D0 G fr σ a w → wrun P (fun _ => False) (fun _ => True) o fr σ (fun fr σ => wopsI P (i + 1) (fun j => if j = i then o.dst else gm j) l fr σ K) → o.wp P a w (wpList P ops Q l) Q := fun hR h =>
      wrun_wp hR hd.1 h fun fr' σ' a' w' hk hR' _ => wopsI_sound hK l (i + 1) _ fr' σ' a' w' hl' hgm' hd.2 hk hR'
    cases hg : o.guard with
    | none =>
      rw [hg] at h
      have hw : Region.wanted o (yielded ops a.tmps) = true := by simp [Region.wanted, hg]
      rw [if_pos hw]
      exact .inl (go hR h)
    | some gw =>
      obtain ⟨g, want⟩ := gw
      rw [hg] at h
      simp only at h
      split at h
      · rename_i t ht
        split at h
        · rename_i b hf
          have hy := yielded_of hR (hgm g t ht) hf
          by_cases hb : b = want
          · subst hb
            have hw : Region.wanted o (yielded ops a.tmps) = true := by simp [Region.wanted, hg, hy]
            rw [if_pos hw]
            have h1 := h.1 rfl
            rw [put_self hf] at h1
            exact .inl (go hR h1)
          · have hb' : b = !want := by cases b <;> cases want <;> simp_all
            have hw : Region.wanted o (yielded ops a.tmps) = false := by simp [Region.wanted, hg, hy, hb]
            rw [hw, if_neg (by simp)]
            have h1 := h.2 hb'
            rw [put_self (hb' ▸ hf)] at h1
            refine wopsI_sound hK l (i + 1) _ _ _ _ _ hl' hgm' hd.2 h1 (hR.next (hR.same (M := fun _ => True) (.val undef)) fun d h => ?_)
            have hd1 := hd.1
            unfold dstOk at hd1
            rw [h] at hd1
            simpa using hd1
        · rename_i vs hf
          have hy := yielded_no hR (hgm g t ht) hf
          have hw : Region.wanted o (yielded ops a.tmps) = false := by simp [Region.wanted, hg, hy]
          rw [hw, if_neg (by simp)]
          refine wopsI_sound hK l (i + 1) _ _ _ _ _ hl' hgm' hd.2 h (hR.next (hR.same (M := fun _ => True) (.val undef)) fun d h => ?_)
          have hd1 := hd.1
          unfold dstOk at hd1
          rw [h] at hd1
          simpa using hd1
        · exact h.elim
      · exact h.elim
end
end Go.Ls
