/- A small program logic over the kit's machine, part k: a region whose order is open. It bears no statement of its own. -/
import Derived.Test.YtjamehpnclkjdaaLj
namespace Go.Ls
open Go
open Go.Proofs.YtjamehpnclkjdaaW.PrintLast
set_option linter.unusedVariables false
set_option linter.unusedSimpArgs false

section
variable {P : Program} {ops : Array Oper} {Q : Exit → Act → World → Prop} {md : Region.Mode} {M : Nat → Prop} {ds : List Nat}

/-- Whatever order is picked from here on; behind each operation that is not one of ds the blocks outside M are as they were. -/
def wpAnyR (P : Program) (md : Region.Mode) (ops : Array Oper) (Q : Exit → Act → World → Prop) (M : Nat → Prop) (ds : List Nat) : Nat → Array Bool → Act → World → Prop
  | 0, listed, a, w => Region.ready md ops listed = [] ∧ Q .normal a w
  | fuel + 1, listed, a, w =>
    (Region.ready md ops listed = [] → Q .normal a w) ∧
    ∀ i ∈ Region.ready md ops listed, wpOp P ops Q i (fun a' w' => (i ∉ ds → Still M w w') ∧ wpAnyR P md ops Q M ds fuel (listed.setIfInBounds i true) a' w') a w

theorem wpAny_of_R : ∀ (fuel : Nat) (listed : Array Bool) (a : Act) (w : World), wpAnyR P md ops Q M ds fuel listed a w → wpAny P md ops Q fuel listed a w
  | 0, _, _, _, h => h
  | fuel + 1, _, _, _, h => ⟨h.1, fun i hi => wpOp_mono (fun a' w' h' => wpAny_of_R fuel _ a' w' h'.2) (h.2 i hi)⟩

/-- An operation that yields the same in every world that reads as wb may be taken first, if those of ds wait for it. -/
theorem wpAnyR_first {i : Nat} {oi : Oper} {v : Value} {wb : World} (hi : ops[i]? = some oi) (hsel : ∀ (j : Nat) (o : Oper) cs b, ops[j]? = some o → o.op ≠ .select cs b)
    (hQ : ∀ c a w, Q (.panic c) (a.put oi.dst v) w → Q (.panic c) a w) (n : Nat) :
    ∀ (fuel : Nat) (listed : Array Bool) (a : Act) (w : World),
      (∀ j oj, ops[j]? = some oj → j ≠ i → listed.getD j true = false → (∀ e ∈ oj.after, Region.binds md e = true → e.on ≠ i) → oi.apart ops oj = true) →
      ListedClosed md ops listed → (∀ d ∈ ds, listed.getD d true = false → Region.reachB md ops i n d = true) →
      i ∈ Region.ready md ops listed → YieldsIf P ops (Still M wb) oi v a → Still M wb w →
      wpAnyR P md ops Q M ds fuel (listed.setIfInBounds i true) (a.put oi.dst v) w → wpAnyR P md ops Q M ds (fuel + 1) listed a w := by
  intro fuel
  induction fuel with
  | zero =>
    intro listed a w _ _ _ hr hy hS H
    refine ⟨fun h => (by rw [h] at hr; cases hr), fun j hj => ?_⟩
    by_cases hji : j = i
    · subst hji; exact hy.wpOp hi hS ⟨fun _ => Still.refl w, H⟩
    · have := ready_mono hj hji
      rw [H.1] at this
      cases this
  | succ fuel ih =>
    intro listed a w hfree hc hd hr hy hS H
    refine ⟨fun h => (by rw [h] at hr; cases hr), fun j hj => ?_⟩
    by_cases hji : j = i
    · subst hji; exact hy.wpOp hi hS ⟨fun _ => Still.refl w, H⟩
    · have h1 := H.2 j (ready_mono hj hji)
      obtain ⟨hjun, oj, hoj, hall⟩ := mem_ready.1 hj
      have hiun := (mem_ready.1 hr).1
      have hnot : ∀ e ∈ oj.after, Region.binds md e = true → e.on ≠ i := fun e he hb heq => by
        have h1 := hall e he hb
        rw [heq] at h1
        rcases Nat.lt_or_ge i listed.size with h' | h'
        · simp [h'] at hiun h1; rw [hiun] at h1; cases h1
        · simp [Array.getElem?_eq_none h'] at h1
      have hjd : j ∉ ds := fun hm => Region.reach_not_ready hc (hd j hm hjun) hiun hj
      have h2 := wpOp_putIf hoj (hfree j oj hoj hji hjun hnot) (fun cs b => hsel i oi cs b hi) (fun cs b => hsel j oj cs b hoj) hQ hy h1
      have hfree' : ∀ k ok, ops[k]? = some ok → k ≠ i → (listed.setIfInBounds j true).getD k true = false →
          (∀ e ∈ ok.after, Region.binds md e = true → e.on ≠ i) → oi.apart ops ok = true := fun k ok hk hki hun hno => by
        refine hfree k ok hk hki ?_ hno
        by_cases hjk : j = k
        · subst hjk; exact hjun
        · rw [getD_set_ne true hjk] at hun; exact hun
      have hd' : ∀ d ∈ ds, (listed.setIfInBounds j true).getD d true = false → Region.reachB md ops i n d = true := fun d hm hun => by
        refine hd d hm ?_
        by_cases hjk : j = d
        · subst hjk; exact hjun
        · rw [getD_set_ne true hjk] at hun; exact hun
      refine wpOp_mono (fun a' w' h3 => ⟨h3.2.1, ih (listed.setIfInBounds j true) a' w' hfree' (hc.set hj) hd' (ready_mono hr (Ne.symm hji)) h3.1 (hS.trans (h3.2.1 hjd)) ?_⟩) h2
      rw [Array.setIfInBounds_comm _ _ hji]
      exact h3.2.2

/-- One that yields the same in whatever world. -/
theorem wpAnyR_any {i : Nat} {oi : Oper} {v : Value} (hi : ops[i]? = some oi) (hsel : ∀ (j : Nat) (o : Oper) cs b, ops[j]? = some o → o.op ≠ .select cs b)
    (hQ : ∀ c a w, Q (.panic c) (a.put oi.dst v) w → Q (.panic c) a w) :
    ∀ (fuel : Nat) (listed : Array Bool) (a : Act) (w : World),
      (∀ j oj, ops[j]? = some oj → j ≠ i → listed.getD j true = false → (∀ e ∈ oj.after, Region.binds md e = true → e.on ≠ i) → oi.apart ops oj = true) →
      i ∈ Region.ready md ops listed → Yields P ops oi v a →
      wpAnyR P md ops Q M ds fuel (listed.setIfInBounds i true) (a.put oi.dst v) w → wpAnyR P md ops Q M ds (fuel + 1) listed a w := by
  intro fuel
  induction fuel with
  | zero =>
    intro listed a w _ hr hy H
    refine ⟨fun h => (by rw [h] at hr; cases hr), fun j hj => ?_⟩
    by_cases hji : j = i
    · subst hji; exact (hy.yieldsIf (S := fun _ => True)).wpOp hi trivial ⟨fun _ => Still.refl w, H⟩
    · have := ready_mono hj hji
      rw [H.1] at this
      cases this
  | succ fuel ih =>
    intro listed a w hfree hr hy H
    refine ⟨fun h => (by rw [h] at hr; cases hr), fun j hj => ?_⟩
    by_cases hji : j = i
    · subst hji; exact (hy.yieldsIf (S := fun _ => True)).wpOp hi trivial ⟨fun _ => Still.refl w, H⟩
    · have h1 := H.2 j (ready_mono hj hji)
      obtain ⟨hjun, oj, hoj, hall⟩ := mem_ready.1 hj
      have hiun := (mem_ready.1 hr).1
      have hnot : ∀ e ∈ oj.after, Region.binds md e = true → e.on ≠ i := fun e he hb heq => by
        have h1 := hall e he hb
        rw [heq] at h1
        rcases Nat.lt_or_ge i listed.size with h' | h'
        · simp [h'] at hiun h1; rw [hiun] at h1; cases h1
        · simp [Array.getElem?_eq_none h'] at h1
      have h2 := wpOp_put hoj (hfree j oj hoj hji hjun hnot) (fun cs b => hsel i oi cs b hi) (fun cs b => hsel j oj cs b hoj) hQ hy h1
      have hfree' : ∀ k ok, ops[k]? = some ok → k ≠ i → (listed.setIfInBounds j true).getD k true = false →
          (∀ e ∈ ok.after, Region.binds md e = true → e.on ≠ i) → oi.apart ops ok = true := fun k ok hk hki hun hno => by
        refine hfree k ok hk hki ?_ hno
        by_cases hjk : j = k
        · subst hjk; exact hjun
        · rw [getD_set_ne true hjk] at hun; exact hun
      refine wpOp_mono (fun a' w' h3 => ⟨h3.2.1, ih (listed.setIfInBounds j true) a' w' hfree' (ready_mono hr (Ne.symm hji)) h3.1 ?_⟩) h2
      rw [Array.setIfInBounds_comm _ _ hji]
      exact h3.2.2

theorem wpAnyR_done {listed : Array Bool} {a : Act} {w : World} (hr : Region.ready md ops listed = []) (h : Q .normal a w) : ∀ fuel, wpAnyR P md ops Q M ds fuel listed a w
  | 0 => ⟨hr, h⟩
  | _ + 1 => ⟨fun _ => h, by rw [hr]; simp⟩
end

/-! ### A plan: the operations in one order that serves for all -/
def dsOf (ops : Array Oper) : List Nat := (List.range ops.size).filter fun i => match ops[i]? with
  | some o => match o.op with
    | .store .. => true
    | _ => false
  | none => false

def stepOk (ops : Array Oper) (ds : List Nat) (l : Array Bool) (i kd : Nat) : Bool := match ops[i]? with
  | none => false
  | some o => match kd with
    | 0 => !active o.op && !isRead o.op && Region.noSelect ops && Region.free .any ops l i && (Region.ready .any ops l).contains i
    | 1 => !active o.op && Region.noSelect ops && Region.free .any ops l i && (Region.ready .any ops l).contains i && Region.closedB .any ops l && Region.lastB .any ops l ds i
    | 2 => active o.op && Region.ready .any ops l == [i]
    | _ => active o.op && Region.ready .any ops l == [i] && ds.contains i

def planOk (ops : Array Oper) (ds : List Nat) : List (Nat × Nat) → Array Bool → Bool
  | [], l => Region.ready .any ops l == []
  | (i, kd) :: rest, l => stepOk ops ds l i kd && planOk ops ds rest (l.setIfInBounds i true)

/-- The plan, made by program. -/
def planGo (ops : Array Oper) (ds : List Nat) : Nat → Array Bool → List (Nat × Nat)
  | 0, _ => []
  | fuel + 1, l =>
    let rs := Region.ready .any ops l
    match rs.find? (fun i => stepOk ops ds l i 0) with
    | some i => (i, 0) :: planGo ops ds fuel (l.setIfInBounds i true)
    | none => match rs.find? (fun i => stepOk ops ds l i 1) with
      | some i => (i, 1) :: planGo ops ds fuel (l.setIfInBounds i true)
      | none => match rs with
        | [i] => (i, if ds.contains i then 3 else 2) :: planGo ops ds fuel (l.setIfInBounds i true)
        | _ => []
def planOf (ops : Array Oper) : List (Nat × Nat) := planGo ops (dsOf ops) ops.size (Array.replicate ops.size false)

def wplan (P : Program) (M : Nat → Prop) (ops : Array Oper) : List (Nat × Nat) → Fr → Heap → (Fr → Heap → Prop) → Prop
  | [], fr, σ, K => K fr σ
  | (i, kd) :: rest, fr, σ, K => match ops[i]? with
    | none => False
    | some o => (kd = 1 → ∀ b, M b → dom σ b) ∧ wop P M (if 3 ≤ kd then fun _ => True else M) ops o fr σ fun fr σ => wplan P M ops rest fr σ K

/-- A region whose order is open: by a plan, and the blocks that its calls may write. -/
def wdraw (P : Program) (ops : Array Oper) (fr : Fr) (σ : Heap) (K : Fr → Heap → Prop) : Prop :=
  ∃ (pl : List (Nat × Nat)) (M : List Nat), planOk ops (dsOf ops) pl (Array.replicate ops.size false) = true ∧ pl.length ≤ ops.size ∧ wplan P (· ∈ M) ops pl fr σ K

section
variable {P : Program} {n : Nat} {w0 : World} {D0 G : Nat → Prop} {M : Nat → Prop} {ops : Array Oper}

theorem pv_noread {M : Nat → Prop} {σ : Heap} {ρ : Operand → LV} {k : LV → Prop} {op : Op} (hr : isRead op = false) (h : pv P M σ ρ k op) : pv P (fun _ => False) σ ρ k op := by
  cases op <;> try exact h
  case load t x => simp [isRead] at hr
  case makeFunc f first cap => cases f <;> exact h
  case slice t x lo hi mx => cases mx <;> exact h
  case call c =>
    obtain ⟨callee, args, ats⟩ := c
    cases callee <;> exact h

theorem plan_sound {ds : List Nat} {K : Fr → Heap → Prop} {Q : Exit → Act → World → Prop} (hdst : ops.toList.all (dstOk n) = true) (hQp : ∀ c a w, ¬ Q (.panic c) a w) (hK : ∀ fr' σ' a' w', K fr' σ' → Rel n w0 D0 G fr' σ' a' w' → Q .normal a' w') :
    ∀ (pl : List (Nat × Nat)) (fuel : Nat) (l : Array Bool) (fr : Fr) (σ : Heap) (a : Act) (w : World), pl.length ≤ fuel → planOk ops ds pl l = true → wplan P M ops pl fr σ K → Rel n w0 D0 G fr σ a w →
      wpAnyR P .any ops Q M ds fuel l a w
  | [], fuel, l, fr, σ, a, w, _, hok, h, hR => wpAnyR_done (by simpa [planOk] using hok) (hK _ _ _ _ h hR) fuel
  | (i, kd) :: pl, 0, l, fr, σ, a, w, hf, _, _, _ => by simp at hf
  | (i, kd) :: pl, fuel + 1, l, fr, σ, a, w, hf, hok, h, hR => by
    have hf' : pl.length ≤ fuel := by simpa using hf
    simp only [planOk, Bool.and_eq_true] at hok
    obtain ⟨hst, hok⟩ := hok
    unfold wplan at h
    unfold stepOk at hst
    cases ho : ops[i]? with
    | none => rw [ho] at h; exact h.elim
    | some o =>
      rw [ho] at h hst
      simp only at h hst
      obtain ⟨hdM, h⟩ := h
      have hdo : dstOk n o = true := List.all_eq_true.1 hdst o (by
        have := Array.mem_of_getElem? ho
        simpa using this)
      have hd' : ∀ d, o.dst = some d → d < n := fun d h => by unfold dstOk at hdo; rw [h] at hdo; simpa using hdo
      have ih := fun {fr σ a w} hw hR => plan_sound (ds := ds) hdst hQp hK pl fuel (l.setIfInBounds i true) fr σ a w hf' hok hw hR
      have hQ : ∀ v c a w, Q (.panic c) (a.put o.dst v) w → Q (.panic c) a w := fun v c a w hq => (hQp _ _ _ hq).elim
      -- what the guard says: carried out, or not
      have hcases : (Region.wanted o (yielded ops a.tmps) = true ∧ wrun P M (if 3 ≤ kd then fun _ => True else M) o fr σ (fun fr σ => wplan P M ops pl fr σ K)) ∨
          (Region.wanted o (yielded ops a.tmps) = false ∧ wplan P M ops pl (put fr o.dst (.val undef)) σ K) := by
        unfold wop at h
        cases hg : o.guard with
        | none =>
          rw [hg] at h
          exact .inl ⟨by simp [Region.wanted, hg], h⟩
        | some gw =>
          obtain ⟨g, want⟩ := gw
          rw [hg] at h
          simp only at h
          split at h
          · rename_i t ht
            split at h
            · rename_i b hf
              have hy := yielded_of hR ht hf
              by_cases hb : b = want
              · subst hb
                have h1 := h.1 rfl
                rw [put_self hf] at h1
                exact .inl ⟨by simp [Region.wanted, hg, hy], h1⟩
              · have hb' : b = !want := by cases b <;> cases want <;> simp_all
                have h1 := h.2 hb'
                rw [put_self (hb' ▸ hf)] at h1
                exact .inr ⟨by simp [Region.wanted, hg, hy, hb], h1⟩
            · rename_i vs hf
              have hy := yielded_no hR ht hf
              exact .inr ⟨by simp [Region.wanted, hg, hy], h⟩
            · exact h.elim
          · exact h.elim
      have off : Region.wanted o (yielded ops a.tmps) = false → wplan P M ops pl (put fr o.dst (.val undef)) σ K → wpAnyR P .any ops Q M ds fuel (l.setIfInBounds i true) (a.put o.dst undef) w :=
        fun _ h1 => ih h1 (hR.next (hR.same (M := M) (.val undef)) hd')
      have act : active o.op = true → (3 ≤ kd → i ∈ ds) → Region.ready .any ops l = [i] → wpAnyR P .any ops Q M ds (fuel + 1) l a w := by
        intro ha hm hr
        refine ⟨fun h0 => absurd (hr.symm.trans h0) (by simp), fun j hj => ?_⟩
        rw [hr] at hj
        simp at hj
        subst hj
        unfold wpOp
        simp only [ho]
        rcases hcases with ⟨hw, h1⟩ | ⟨hw, h1⟩
        · rw [if_pos hw]
          have h2 : wrun P (fun _ => False) (if 3 ≤ kd then fun _ => True else M) o fr σ (fun fr σ => wplan P M ops pl fr σ K) := by
            unfold wrun at h1 ⊢
            rw [if_pos ha] at h1 ⊢
            exact h1
          exact .inl (wrun_wp hR hdo h2 fun fr' σ' a' w' hk hR' hs => ⟨fun hnd => by
            by_cases h3 : 3 ≤ kd
            · exact absurd (hm h3) hnd
            · rw [if_neg h3] at hs
              exact hs, ih hk hR'⟩)
        · rw [hw, if_neg (by simp)]
          exact ⟨fun _ => Still.refl w, off hw h1⟩
      match kd, hst, hdM, hcases, act with
      | 0, hst, hdM, hcases, act =>
        simp only [Bool.and_eq_true, Bool.not_eq_true'] at hst
        obtain ⟨⟨⟨⟨ha, hrd⟩, hs⟩, hfr⟩, hrdy⟩ := hst
        rcases hcases with ⟨hw, h1⟩ | ⟨hw, h1⟩
        · unfold wrun at h1
          rw [if_neg (by simp [ha])] at h1
          obtain ⟨v, x, hk, hv, hrun⟩ := pv_sound hR (fun _ h => h.elim) (pv_noread hrd h1) (fun _ => True) (fun h => by rw [hrd] at h; cases h)
          exact wpAnyR_any ho (Region.noSelect_spec hs) (hQ v) fuel l a w (Region.free_spec ho hfr) (by simpa using hrdy) (.inl ⟨hw, fun w' => hrun w' trivial⟩) (ih hk (hR.next (hR.same (M := M) hv) hd'))
        · exact wpAnyR_any ho (Region.noSelect_spec hs) (hQ undef) fuel l a w (Region.free_spec ho hfr) (by simpa using hrdy) (.inr ⟨hw, rfl⟩) (off hw h1)
      | 1, hst, hdM, hcases, act =>
        simp only [Bool.and_eq_true, Bool.not_eq_true'] at hst
        obtain ⟨⟨⟨⟨⟨ha, hs⟩, hfr⟩, hrdy⟩, hcl⟩, hlast⟩ := hst
        have hlast' : ∀ d ∈ ds, l.getD d true = false → Region.reachB .any ops i ops.size d = true := fun d hm hun => by
          have := List.all_eq_true.1 hlast d hm
          rw [hun] at this
          simpa using this
        rcases hcases with ⟨hw, h1⟩ | ⟨hw, h1⟩
        · unfold wrun at h1
          rw [if_neg (by simp [ha])] at h1
          obtain ⟨v, x, hk, hv, hrun⟩ := pv_sound hR (hdM rfl) h1 (fun w' => Still M w w') (fun _ _ h => h)
          exact wpAnyR_first (wb := w) ho (Region.noSelect_spec hs) (hQ v) ops.size fuel l a w (Region.free_spec ho hfr) (Region.closedB_spec hcl) hlast' (by simpa using hrdy) (.inl ⟨hw, hrun⟩) (Still.refl w) (ih hk (hR.next (hR.same (M := M) hv) hd'))
        · exact wpAnyR_any ho (Region.noSelect_spec hs) (hQ undef) fuel l a w (Region.free_spec ho hfr) (by simpa using hrdy) (.inr ⟨hw, rfl⟩) (off hw h1)
      | 2, hst, hdM, hcases, act =>
        simp only [Bool.and_eq_true, beq_iff_eq] at hst
        exact act hst.1 (fun h => by omega) hst.2
      | kd + 3, hst, hdM, hcases, act =>
        simp only [Bool.and_eq_true, beq_iff_eq] at hst
        exact act hst.1.1 (fun _ => by simpa using hst.2) hst.1.2

theorem wdraw_sound {K : Fr → Heap → Prop} {Q : Exit → Act → World → Prop} (hdst : ops.toList.all (dstOk n) = true) (hQp : ∀ c a w, ¬ Q (.panic c) a w) (hK : ∀ fr' σ' a' w', K fr' σ' → Rel n w0 D0 G fr' σ' a' w' → Q .normal a' w')
    (hm : P.follows .mixedOrders = true) {id : Nat} {fr : Fr} {σ : Heap} {a : Act} {w : World} (h : wdraw P ops fr σ K) (hR : Rel n w0 D0 G fr σ a w) : (Code.region id ops true).wp P Q a w := by
  obtain ⟨pl, M, hok, hle, h⟩ := h
  exact wp_region_any hm (wpAny_of_R _ _ _ _ (plan_sound (ds := dsOf ops) hdst hQp hK pl ops.size _ fr σ a w.drew hle hok h hR.drew))
end
end Go.Ls
