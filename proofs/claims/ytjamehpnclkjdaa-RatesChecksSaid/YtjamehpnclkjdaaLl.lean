/- A small program logic over the kit's machine, part l: code, loops, functions. It bears no statement of its own. -/
import Derived.Test.YtjamehpnclkjdaaLk
namespace Go.Ls
open Go
set_option linter.unusedVariables false
set_option linter.unusedSimpArgs false

def fits (n : Nat) : Code → Bool
  | .region _ ops _ => ops.toList.all (dstOk n)
  | .seq x y => fits n x && fits n y
  | .cond _ x y => fits n x && fits n y
  | .block _ c => fits n c
  | .loop c => fits n c
  | _ => true

def Post (n : Nat) (w0 : World) (D0 G : Nat → Prop) (K : Exit → Fr → Heap → Prop) : Exit → Act → World → Prop
  | .panic _, _, _ => False
  | .outgrown, _, _ => False
  | .goto _, _, _ => False
  | e, a, w => ∃ fr σ, K e fr σ ∧ Rel n w0 D0 G fr σ a w

/-- Code from a state: where it ends, K holds. -/
def WC (P : Program) (n : Nat) (c : Code) (fr : Fr) (σ : Heap) (K : Exit → Fr → Heap → Prop) : Prop :=
  fits n c = true → ∀ (w0 : World) (D0 G : Nat → Prop) (a : Act) (w : World), Rel n w0 D0 G fr σ a w → c.wp P (Post n w0 D0 G K) a w

/-- The weakest condition of a piece of code; what follows it is asked as WC. -/
def wc (P : Program) (n : Nat) : Code → Fr → Heap → (Exit → Fr → Heap → Prop) → Prop
  | .skip, fr, σ, K => K .normal fr σ
  | .region _ ops true, fr, σ, K => wdraw P ops fr σ (K .normal)
  | .region _ ops false, fr, σ, K => wopsI P 0 (fun _ => none) ops.toList fr σ (K .normal)
  | .seq x y, fr, σ, K => wc P n x fr σ fun e fr σ => match e with
    | .normal => WC P n y fr σ K
    | e => K e fr σ
  | .cond c x y, fr, σ, K => match ev fr c with
    | .val (.bool b) => (b = true → WC P n x fr σ K) ∧ (b = false → WC P n y fr σ K)
    | _ => False
  | .block id c, fr, σ, K => wc P n c fr σ fun e fr σ => match e with
    | .exit i => if i = id then K .normal fr σ else K (.exit i) fr σ
    | e => K e fr σ
  | .loop c, fr, σ, K => WC P n (.loop c) fr σ K
  | .exit id, fr, σ, K => K (.exit id) fr σ
  | .ret, fr, σ, K => K .ret fr σ
  | _, _, _, _ => False

section
variable {P : Program} {n : Nat}

theorem post_panic {w0 : World} {D0 G : Nat → Prop} {K : Exit → Fr → Heap → Prop} (c : List PanicEntry) (a : Act) (w : World) : ¬ Post n w0 D0 G K (.panic c) a w := fun h => h

theorem wc_sound (hm : P.follows .mixedOrders = true) : ∀ (c : Code) (fr : Fr) (σ : Heap) (K : Exit → Fr → Heap → Prop), wc P n c fr σ K → WC P n c fr σ K := by
  intro c
  induction c with
  | skip => intro fr σ K h _ w0 D0 G a w hR; exact wp_skip ⟨fr, σ, h, hR⟩
  | region id ops d =>
    intro fr σ K h hfit w0 D0 G a w hR
    cases d with
    | true => exact wdraw_sound (K := K .normal) hfit post_panic (fun fr' σ' a' w' hk hR' => ⟨fr', σ', hk, hR'⟩) hm h hR
    | false => exact wp_region_list (wopsI_sound (K := K .normal) (fun fr' σ' a' w' hk hR' => ⟨fr', σ', hk, hR'⟩) ops.toList 0 (fun _ => none) fr σ a w (fun j => by simp) (fun _ _ h => by cases h) hfit h hR)
  | seq x y ihx ihy =>
    intro fr σ K h hfit w0 D0 G a w hR
    simp only [fits, Bool.and_eq_true] at hfit
    refine wp_seq (wp_mono (ihx _ _ _ h hfit.1 w0 D0 G a w hR) fun e a w hp => ?_)
    cases e <;> first
      | exact hp
      | (obtain ⟨fr', σ', hk, hR'⟩ := hp; exact hk hfit.2 w0 D0 G a w hR')
  | cond c x y ihx ihy =>
    intro fr σ K h hfit w0 D0 G a w hR
    simp only [fits, Bool.and_eq_true] at hfit
    simp only [wc] at h
    have hc := hR.evr c
    split at h
    · rename_i b hb
      rw [hb] at hc
      generalize hv : a.eval c = v at hc
      cases hc
      exact wp_cond_split hv (fun ht => h.1 ht hfit.1 w0 D0 G a w hR) (fun ht => h.2 ht hfit.2 w0 D0 G a w hR)
    · exact h.elim
  | block id c ih =>
    intro fr σ K h hfit w0 D0 G a w hR
    refine wp_block (wp_mono (ih _ _ _ h hfit w0 D0 G a w hR) fun e a w hp => ?_)
    cases e <;> try exact hp
    case exit i =>
      obtain ⟨fr', σ', hk, hR'⟩ := hp
      simp only at hk
      simp only [Exit.inBlock]
      split
      · rename_i hi; rw [if_pos hi] at hk; exact ⟨fr', σ', hk, hR'⟩
      · rename_i hi; rw [if_neg hi] at hk; exact ⟨fr', σ', hk, hR'⟩
  | loop c ih => intro fr σ K h; exact h
  | rangeFunc f ps x y ihx ihy => intro fr σ K h; exact h.elim
  | exit id => intro fr σ K h _ w0 D0 G a w hR; exact wp_exit ⟨fr, σ, h, hR⟩
  | scope c ih => intro fr σ K h; exact h.elim
  | label l => intro fr σ K h; exact h.elim
  | goto l => intro fr σ K h; exact h.elim
  | ret => intro fr σ K h _ w0 D0 G a w hR; exact wp_ret ⟨fr, σ, h, hR⟩
  | refuse why => intro fr σ K h; exact h.elim

theorem WC.mono {c : Code} {fr : Fr} {σ : Heap} {K K' : Exit → Fr → Heap → Prop} (h : WC P n c fr σ K) (hk : ∀ e fr σ, K e fr σ → K' e fr σ) : WC P n c fr σ K' :=
  fun hfit w0 D0 G a w hR => wp_mono (h hfit w0 D0 G a w hR) fun e a w hp => by
    cases e <;> first
      | exact hp
      | (obtain ⟨fr', σ', h1, hR'⟩ := hp; exact ⟨fr', σ', hk _ _ _ h1, hR'⟩)

theorem WC.sub {c : Code} {fr : Fr} {σ τ : Heap} {K : Exit → Fr → Heap → Prop} (h : WC P n c fr τ K) (hs : Sub τ σ) : WC P n c fr σ K :=
  fun hfit w0 D0 G a w hR => h hfit w0 D0 G a w (hR.sub hs)

/-- A loop: I at every round's head, with a number that goes down. -/
theorem loop_rule {c : Code} {fr : Fr} {σ : Heap} {K : Exit → Fr → Heap → Prop} (I : Nat → Fr → Heap → Prop) (m : Nat) (h0 : I m fr σ)
    (round : ∀ m fr σ, I m fr σ → WC P n c fr σ fun e fr' σ' => match e with
      | .normal => ∃ m' τ, m' < m ∧ Sub τ σ' ∧ I m' fr' τ
      | e => K e fr' σ') : WC P n (.loop c) fr σ K := by
  intro hfit w0 D0 G a w hR b k cs
  have key : ∀ m fr σ a w, I m fr σ → Rel n w0 D0 G fr σ a w →
      ∃ e a' w', Post n w0 D0 G K e a' w' ∧ Arrives P (lone (b.at a (.code c :: .inLoop c :: k)) cs w) b k cs e a' w' := by
    intro m
    induction m using Nat.strongRecOn with
    | _ m ih =>
      intro fr σ a w hI hR
      obtain ⟨e, a₁, w₁, hq, harr⟩ := round m fr σ hI hfit w0 D0 G a w hR b (.inLoop c :: k) cs
      cases e with
      | normal =>
        obtain ⟨fr', σ', ⟨m', τ, hlt, hsub, hI'⟩, hR'⟩ := hq
        obtain ⟨e₂, a₂, w₂, hq₂, harr₂⟩ := ih m' hlt fr' τ a₁ w₁ hI' (hR'.sub hsub)
        exact ⟨e₂, a₂, w₂, hq₂, .of_steps (Steps.trans harr (.one step_inLoop)) harr₂⟩
      | exit id => exact ⟨.exit id, a₁, w₁, hq, .pass (x := .inLoop c) rfl (fun _ _ => .inl (by simp)) harr⟩
      | goto l => exact ⟨.goto l, a₁, w₁, hq, .pass (x := .inLoop c) rfl (fun _ _ => .inl (by simp)) harr⟩
      | ret => exact ⟨.ret, a₁, w₁, hq, .pass (x := .inLoop c) rfl (fun _ _ => .inl (by simp)) harr⟩
      | panic ch => exact ⟨.panic ch, a₁, w₁, hq, .pass (x := .inLoop c) rfl (fun _ _ => .inl (by simp)) harr⟩
      | outgrown => exact ⟨.outgrown, a₁, w₁, hq, .pass (x := .inLoop c) rfl (fun _ _ => .inl (by simp)) harr⟩
  obtain ⟨e, a', w', hq, harr⟩ := key m fr σ a w h0 hR
  exact ⟨e, a', w', hq, .of_steps (.one step_loop) harr⟩

/-! ### Functions -/
def resOne (P : Program) (σ : Heap) (fr : Fr) (k : LV → Prop) : ResultVar → Prop
  | .tmp t => k (fr t)
  | .cell a t => ldK P (fun _ => False) σ t k (fr a)
def resAll (P : Program) (σ : Heap) (fr : Fr) : List ResultVar → (List LV → Prop) → Prop
  | [], k => k []
  | r :: rs, k => resOne P σ fr (fun x => resAll P σ fr rs fun xs => k (x :: xs)) r
def resOf : List LV → LV
  | [x] => x
  | xs => .tup xs
/-- What is returned. -/
def resK (P : Program) (rs : List ResultVar) (σ : Heap) (fr : Fr) (R : LV → Prop) : Prop := resAll P σ fr rs fun xs => R (resOf xs)

def fr0 (args : List LV) : Fr := fun t => args.getD t (.val undef)

def resSem (tmps : Array Value) : ResultVar → Sem Value
  | .tmp t => pure (tmps.getD t undef)
  | .cell b t => do loadVar t (← asAddr (tmps.getD b undef))

theorem resOne_sound {w0 : World} {D0 G : Nat → Prop} {fr : Fr} {σ : Heap} {a : Act} {w : World} (hR : Rel n w0 D0 G fr σ a w) {r : ResultVar} {k : LV → Prop} (h : resOne P σ fr k r) :
    ∃ v x, k x ∧ VR w (Fo σ G) x v ∧ (resSem a.tmps r).run P w = .ok v w := by
  cases r with
  | tmp t => exact ⟨_, _, h, hR.frame t, by simp [resSem]⟩
  | cell b t =>
    simp only [resOne] at h
    obtain ⟨v, x, hk, hv, hrun⟩ := pv_sound (o := ⟨none, .load t (.tmp b), 0, "", #[], none⟩) (M := fun _ => False) hR (fun _ h => h.elim) h (fun w' => w' = w) (fun _ w' hw => by subst hw; exact Still.refl _)
    refine ⟨v, x, hk, hv, ?_⟩
    have hr := hrun w rfl
    have he : a.eval (.tmp b) = a.tmps.getD b undef := rfl
    have hx := hR.frame b
    have hp : ∃ ad, a.tmps.getD b undef = .pointer (some ad) := by
      unfold ldK at h
      generalize a.tmps.getD b undef = vb at hx
      split at h
      · rename_i cs hcs; rw [hcs] at hx; cases hx; exact ⟨_, rfl⟩
      · rename_i B i j hcs; rw [hcs] at hx; cases hx; exact ⟨_, rfl⟩
      · exact h.elim
    obtain ⟨ad, hp⟩ := hp
    simp only [execOp, he, hp, Instr.loadAt, Instr.sureAddr, Sem.run_bind, Sem.run_pure, Result.andThen_ok] at hr
    simp only [resSem, hp, asAddr, Sem.run_bind, Sem.run_pure, Result.andThen_ok]
    cases hl : (loadVar t ad).run P w with
    | ok u w' => rw [hl] at hr; simp at hr; rw [hr.1, hr.2]
    | halt x w' => rw [hl] at hr; simp at hr

theorem resAll_sound {w0 : World} {D0 G : Nat → Prop} {fr : Fr} {σ : Heap} {a : Act} {w : World} (hR : Rel n w0 D0 G fr σ a w) : ∀ (rs : List ResultVar) (k : List LV → Prop), resAll P σ fr rs k →
    ∃ vs xs, k xs ∧ xs.length = vs.length ∧ (∀ (i : Nat) (x : LV) (v : Value), xs[i]? = some x → vs[i]? = some v → VR w (Fo σ G) x v) ∧ (rs.mapM (resSem a.tmps)).run P w = .ok vs w
  | [], k, h => ⟨[], [], h, rfl, fun i x v h1 h2 => by simp at h1, by simp⟩
  | r :: rs, k, h => by
    obtain ⟨v, x, hk, hv, hrun⟩ := resOne_sound hR h
    obtain ⟨vs, xs, hk', hl, hvs, hrun'⟩ := resAll_sound hR rs _ hk
    refine ⟨v :: vs, x :: xs, hk', by simp [hl], fun i y u h1 h2 => ?_, ?_⟩
    · cases i with
      | zero => simp at h1 h2; subst h1; subst h2; exact hv
      | succ i => exact hvs i y u (by simpa using h1) (by simpa using h2)
    · rw [List.mapM_cons]
      simp only [Sem.run_bind, Sem.run_pure, Result.andThen_ok, hrun', hrun]

theorem lcalls_intro {f : FuncId} {fn : Func} {body : Code} {rts : List ResultVar} {args : List LV} {σ : Heap} {R : LV → Heap → Prop} (hf : P.funcs[f]? = some fn) (hb : fn.body = some body)
    (hname : (fn.name != "runtime.NumGoroutine") = true) (hfit : fits fn.ntmps body = true) (hres : fn.results = rts.toArray) (hargs : Nat.ble args.length fn.ntmps = true)
    (h : WC P fn.ntmps body (fr0 args) σ fun e fr σ' => match e with
      | .normal => resK P rts σ' fr fun x => ∃ τ, Sub τ σ' ∧ R x τ
      | .ret => resK P rts σ' fr fun x => ∃ τ, Sub τ σ' ∧ R x τ
      | _ => False) : LCalls P f args σ R := by
  replace hargs := Nat.le_of_ble_eq_true hargs
  refine ⟨by simp [isGo, hf, hb, hname], fun G w vs hG hh hl hv => ?_⟩
  refine calls_of_wp hf hb (wp_mono (h hfit w (dom σ) G { tmps := vs ++ Array.replicate (fn.ntmps - vs.size) undef, defers := [] } w ?_) fun e a w' hp => ?_)
  · refine ⟨rfl, by simp; omega, fun t => ?_, hh, hG, Step.refl w _⟩
    by_cases ht : t < args.length
    · have ht' : t < vs.size := by omega
      have e1 : (vs ++ Array.replicate (fn.ntmps - vs.size) undef).getD t undef = vs[t] := by
        simp [Array.getElem?_append, ht']
      have e2 : fr0 args t = args[t] := by simp [fr0, List.getD, List.getElem?_eq_getElem ht]
      rw [e1, e2]
      exact hv t _ _ (List.getElem?_eq_getElem ht) (Array.getElem?_eq_getElem ht')
    · have ht' : ¬ t < vs.size := by omega
      have e1 : (vs ++ Array.replicate (fn.ntmps - vs.size) undef).getD t undef = undef := by
        simp only [Array.getD_eq_getD_getElem?, Array.getElem?_append, if_neg ht']
        by_cases h2 : t - vs.size < fn.ntmps - vs.size
        · simp [h2]
        · simp [h2]
      have e2 : fr0 args t = .val undef := by simp only [fr0, List.getD]; rw [List.getElem?_eq_none (by omega)]; rfl
      rw [e1, e2]
      exact .val _
  · have fin : ∀ {fr : Fr} {σ' : Heap}, (resK P rts σ' fr fun x => ∃ τ, Sub τ σ' ∧ R x τ) → Rel fn.ntmps w (dom σ) G fr σ' a w' → a.defers = [] ∧ ∃ v, (results fn a.tmps).run P w' = .ok v w' ∧ ∃ v' x σ', Ending.returned v = .returned v' ∧ R x σ' ∧ Holds w' (fun b => dom σ' b ∨ G b) σ' ∧ VR w' (fun b => dom σ' b ∨ G b) x v' ∧ Step w w' (dom σ) (dom σ') := by
      intro fr σ' hr hR
      obtain ⟨us, xs, ⟨τ, hsub, hk⟩, hlen, hus0, hrun⟩ := resAll_sound hR rts _ hr
      have hR' := hR.sub hsub
      have hus : ∀ (i : Nat) (x : LV) (v : Value), xs[i]? = some x → us[i]? = some v → VR w' (Fo τ G) x v := fun i x v h1 h2 => (hus0 i x v h1 h2).shrink (fun b hb => hb.imp hsub.dom _root_.id)
      have hrun2 : (results fn a.tmps).run P w' = .ok (if h : us.toArray.size = 1 then us.toArray[0] else .tuple us.toArray) w' := by
        have hfun : (fun (x : ResultVar) => (match x with
            | .tmp t => pure (a.tmps.getD t undef)
            | .cell b t => do loadVar t (← asAddr (a.tmps.getD b undef)) : Sem Value)) = resSem a.tmps := by
          funext x
          cases x <;> rfl
        have hrun1 : (fn.results.mapM fun (x : ResultVar) => (match x with
            | .tmp t => pure (a.tmps.getD t undef)
            | .cell b t => do loadVar t (← asAddr (a.tmps.getD b undef)) : Sem Value)).run P w' = .ok us.toArray w' := by
          rw [hfun]
          rw [hres, Array.mapM_eq_mapM_toList]
          simp only [Sem.run_map, hrun, Result.andThen_ok]
        unfold results
        simp only [Sem.run_bind]
        erw [hrun1]
        simp only [Result.andThen_ok, Sem.run_pure]
      refine ⟨hR.defers, _, hrun2, _, _, τ, rfl, hk, hR'.holds, ?_, hR'.step⟩
      match xs, us, hlen, hus with
      | [], [], _, _ => exact .tup rfl (fun i c v h1 _ => by simp at h1)
      | [x], [u], _, hus => exact hus 0 x u rfl rfl
      | x :: y :: xs, u :: v :: us, hlen, hus => exact .tup (by simpa using hlen) (fun i c v' h1 h2 => hus i c v' h1 (by simpa using h2))
    cases e <;> first
      | (obtain ⟨fr, σ', hr, hR⟩ := hp; exact fin hr hR)
      | exact hp.elim
      | (obtain ⟨fr, σ', hr, hR⟩ := hp; exact hr.elim)
end
end Go.Ls
