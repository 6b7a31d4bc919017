/- A small program logic over the kit's machine, part n: loops, views, slices of one's own. It bears no statement of its own. -/
import Derived.Test.YtjamehpnclkjdaaLm
namespace Go.Ls
open Go
set_option linter.unusedVariables false
set_option linter.unusedSimpArgs false

/-- What x says while σ is owned, y says while τ is: a part of σ is given up. -/
def View (σ τ : Heap) (x y : LV) : Prop :=
  Sub τ σ ∧ ∀ (w : World) (G : Nat → Prop) (v : Value), (∀ b, G b → ¬ dom σ b) → Holds w (Fo σ G) σ → VR w (Fo σ G) x v → VR w (Fo τ G) y v

theorem View.refl (σ : Heap) (x : LV) : View σ σ x x := ⟨Sub.refl σ, fun _ _ _ _ _ h => h⟩
theorem View.of_sub {σ τ : Heap} {x : LV} (h : Sub τ σ) : View σ τ x x := ⟨h, fun _ _ _ _ _ hv => hv.shrink (fun b hb => hb.imp h.dom _root_.id)⟩
theorem View.nil {σ τ : Heap} {sz : Nat} (h : Sub τ σ) : View σ τ (.val (.slice none 0 0)) (.ro sz []) := ⟨h, fun _ _ _ _ _ hv => by cases hv; exact .nil⟩

/-- The whole of an owned block, from now on only read; its elements by views of their cells. -/
theorem View.msl {σ τ : Heap} {B : Blk} {xs ys : List LV} (hp : Sub ((B, xs) :: τ) σ) (hl : xs.length = ys.length)
    (hs : ∀ (i : Nat) (x y : LV), xs[i]? = some x → ys[i]? = some y → x.cells.length = y.cells.length ∧ ∀ (j : Nat) (c d : LV), x.cells[j]? = some c → y.cells[j]? = some d → (d.one = true) ∧ View σ τ c d) :
    View σ τ (.msl B 0 xs.length) (.ro B.sz ys) := by
  have hsub : Sub τ σ := (Sub.skip _ (Sub.refl τ)).trans hp
  refine ⟨hsub, fun w G v hG hh hv => ?_⟩
  cases hv with
  | msl hc hm hr =>
    rename_i cap
    obtain ⟨ρ, hperm⟩ := hp
    have hmem : (B, xs) ∈ σ := hperm.mem_iff.2 (by simp)
    obtain ⟨cs, e, hb, hroom, hlen, hcell⟩ := hh.1 _ hmem
    simp only at hb hroom hlen hcell
    have hbl : B.b < w.heap.size := (Array.getElem?_eq_some_iff.1 hb).1
    have hnot : ¬ Fo τ G B.b := by
      rintro (h | h)
      · have hn := (hperm.map (·.1.b)).nodup_iff.1 hh.2
        simp only [List.cons_append, List.map_cons, List.nodup_cons, List.map_append, List.mem_append] at hn
        exact hn.1 (.inl (dom_map.1 h))
      · exact hG _ h ⟨_, hmem, rfl⟩
    have e0 : (⟨B.b, 0 * B.sz, none⟩ : Addr) = ⟨B.b, 0, none⟩ := by rw [Nat.zero_mul]
    rw [e0]
    by_cases h0 : ys.length = 0
    · have : ys = [] := List.eq_nil_of_length_eq_zero h0
      subst this
      rw [hl]
      exact .nil
    · rw [hl]
      have get : ∀ {i : Nat} {y : LV}, ys[i]? = some y → ∃ x, xs[i]? = some x := fun {i y} hy => by
        have : i < xs.length := by rw [hl]; exact (List.getElem?_eq_some_iff.1 hy).1
        exact ⟨_, List.getElem?_eq_getElem this⟩
      refine .ro (fun i j => cs.getD (i * B.sz + j) undef) hnot hbl (by rw [← hl]; exact hc) (fun i y hy => ?_) (fun i y j d hy hd => ?_) (fun i y j d hy hd => ?_) (fun i y j d hy hd => ?_)
      · obtain ⟨x, hx⟩ := get hy
        rw [← (hs i x y hx hy).1]
        exact hlen i x hx
      all_goals
        obtain ⟨x, hx⟩ := get hy
        obtain ⟨h1, h2⟩ := hs i x y hx hy
        have hjl : j < x.cells.length := by rw [h1]; exact (List.getElem?_eq_some_iff.1 hd).1
        have hc' := List.getElem?_eq_getElem hjl
        obtain ⟨ho, u, hu, hvr⟩ := hcell i x j _ hx hc'
        have hgd : cs.getD (i * B.sz + j) undef = u := by simp [Array.getD_eq_getD_getElem?, hu]
      · exact (h2 j _ d hc' hd).1
      · simp only [World.cell?, hb, Nat.zero_add, hgd]
        simpa using hu
      · rw [hgd]
        exact (h2 j _ d hc' hd).2.2 w G u hG hh hvr

theorem View.own {σ τ : Heap} {sz : Nat} {v : LV} {xs : List LV} (h : Own sz v xs σ τ) (ho : ∀ x ∈ xs, x.cells.all LV.one = true) : View σ τ v (.ro sz xs) := by
  rcases h with ⟨rfl, rfl, hp⟩ | ⟨B, rfl, rfl, hp⟩
  · exact View.nil (Sub.of_perm hp)
  · refine View.msl (Sub.of_perm hp) rfl fun i x y hx hy => ?_
    rw [hx] at hy
    cases hy
    refine ⟨rfl, fun j c d hc hd => ?_⟩
    rw [hc] at hd
    cases hd
    exact ⟨List.all_eq_true.1 (ho x (List.mem_of_getElem? hx)) c (List.mem_of_getElem? hc), View.of_sub ((Sub.skip _ (Sub.refl τ)).trans (Sub.of_perm hp))⟩

section
variable {P : Program} {n : Nat} {c : Code} {fr : Fr} {σ τ : Heap} {K : Exit → Fr → Heap → Prop}

theorem WC.view (t : Nat) {y : LV} (hv : View σ τ (fr t) y) (h : Box (Tk.mk : Tk (WC P n c (put fr (some t) y) τ K))) : Box (Tk.mk : Tk (WC P n c fr σ K)) := by
  intro hfit w0 D0 G a w hR
  refine h hfit w0 D0 G a w ?_
  have hs := hR.sub hv.1
  refine ⟨hs.defers, hs.size, fun s => ?_, hs.holds, hs.shut, hs.step⟩
  simp only [put]
  split
  · rename_i e
    subst e
    exact hv.2 w G _ (fun b hb => hR.apart hb) hR.holds (hR.frame s)
  · exact hs.frame s

theorem WC.drop (hs : Sub τ σ) (h : Box (Tk.mk : Tk (WC P n c fr τ K))) : Box (Tk.mk : Tk (WC P n c fr σ K)) := WC.sub h hs

/-- One step on, but not into a loop. -/
def isLoop : Code → Bool
  | .loop _ => true
  | _ => false
theorem WC.on (hm : P.follows .mixedOrders = true) (hc : isLoop c = false) (h : wc P n c fr σ K) : Box (Tk.mk : Tk (WC P n c fr σ K)) := wc_sound hm c fr σ K h

/-- Of the frame some slots are kept in mind. -/
theorem WC.mind (h : ∀ g : Fr, (∀ t, g t = fr t) → Box (Tk.mk : Tk (WC P n c g σ K))) : Box (Tk.mk : Tk (WC P n c fr σ K)) := h fr fun _ => rfl

/-- A round's end. -/
def Round {I : Nat → Fr → Heap → Prop} (t : Tk I) (m : Nat) (fr : Fr) (σ : Heap) : Prop := ∃ m' τ, m' < m ∧ Sub τ σ ∧ I m' fr τ
theorem Round.go {I : Nat → Fr → Heap → Prop} {m : Nat} {fr : Fr} {σ : Heap} (m' : Nat) (τ : Heap) (hm : m' < m) (hs : Sub τ σ) (h : I m' fr τ) : Round (Tk.mk : Tk I) m fr σ := ⟨m', τ, hm, hs, h⟩

/-- A loop: I at every round's head, with a number that goes down. -/
theorem WC.loop (I : Nat → Fr → Heap → Prop) (m : Nat) (h0 : I m fr σ)
    (round : ∀ m fr σ, I m fr σ → Box (Tk.mk : Tk (WC P n c fr σ fun e fr' σ' => match e with
      | .normal => Round (Tk.mk : Tk I) m fr' σ'
      | e => K e fr' σ'))) : Box (Tk.mk : Tk (WC P n (.loop c) fr σ K)) := loop_rule I m h0 fun m fr σ h => (round m fr σ h).mono fun e fr σ h => by
  cases e <;> exact h
end

theorem lcalls_go {P : Program} {f : FuncId} {fn : Func} {body : Code} {rts : List ResultVar} {args : List LV} {σ : Heap} {R : LV → Heap → Prop} (hf : P.funcs[f]? = some fn) (hb : fn.body = some body)
    (hname : (fn.name != "runtime.NumGoroutine") = true) (hfit : fits fn.ntmps body = true) (hres : fn.results = rts.toArray) (hargs : Nat.ble args.length fn.ntmps = true)
    (h : Box (Tk.mk : Tk (WC P fn.ntmps body (fr0 args) σ fun e fr σ' => match e with
      | .normal => resK P rts σ' fr fun x => ∃ τ, Sub τ σ' ∧ R x τ
      | .ret => resK P rts σ' fr fun x => ∃ τ, Sub τ σ' ∧ R x τ
      | _ => False))) : LCalls P f args σ R := lcalls_intro hf hb hname hfit hres hargs h

/-- A call that is given none of the memory here. -/
theorem call_new {P : Program} {M : Nat → Prop} {f : FuncId} {xs : List LV} {σ : Heap} {k : LV → Heap → Prop} {t : Tk k} {R : LV → Heap → Prop} (h : LCalls P f xs [] R) (hk : ∀ r σ', R r σ' → k r (σ' ++ σ)) : clH t P M σ f xs :=
  ⟨[], σ, List.Perm.refl _, fun b hb => (dom_nil hb).elim, h.mono hk⟩
/-- A call that is given a part. -/
theorem call_split {P : Program} {M : Nat → Prop} {f : FuncId} {xs : List LV} {σ : Heap} {k : LV → Heap → Prop} {t : Tk k} {R : LV → Heap → Prop} (σ1 τ : Heap) (hp : σ.Perm (σ1 ++ τ)) (hM : ∀ b, dom σ1 b → M b) (h : LCalls P f xs σ1 R) (hk : ∀ r σ', R r σ' → k r (σ' ++ τ)) : clH t P M σ f xs :=
  ⟨σ1, τ, hp, hM, h.mono hk⟩

theorem app_go {P : Program} {M : Nat → Prop} {σ : Heap} {t : TypeId} {s x : LV} {k : LV → Heap → Prop} {tk : Tk k} {z : LV} {sz by_ : Nat} (ht : slTy P t = some (z, sz, by_)) (xs ys : List LV) {τ : Heap} (τ' : Heap) (hown : Own sz s xs σ τ) (hsrc : Src σ sz x ys) (hsub : Sub τ' τ) (hM : ∀ B n, s = .msl B 0 n → M B.b)
    (hl : xs.length + ys.length ≤ maxLen) (hb : (xs.length + ys.length) * by_ ≤ 140737488355328) (h : ∀ v' σ', Own sz v' (xs ++ ys) σ' τ' → k v' σ') : apF tk P M σ t s x := by
  unfold apF appK
  rw [ht]
  exact ⟨σ, xs, ys, τ, τ', HV.refl σ, hown, hsrc, hsub, fun B n e => .inl (hM B n e), hl, hb, fun v' σ' ho _ => h v' σ' ho.own⟩

theorem app_hv {P : Program} {M : Nat → Prop} {σ : Heap} {t : TypeId} {s x : LV} {k : LV → Heap → Prop} {tk : Tk k} {z : LV} {sz by_ : Nat} (ht : slTy P t = some (z, sz, by_)) (σ0 : Heap) (hv : HV σ σ0) (xs ys : List LV) {τ : Heap} (τ' : Heap) (hown : Own sz s xs σ0 τ) (hsrc : Src σ0 sz x ys) (hsub : Sub τ' τ) (hM : ∀ B n, s = .msl B 0 n → M B.b ∨ B.room = n * B.sz)
    (hl : xs.length + ys.length ≤ maxLen) (hb : (xs.length + ys.length) * by_ ≤ 140737488355328) (h : ∀ v' σ', OwnE sz v' (xs ++ ys) σ' τ' → k v' σ') : apF tk P M σ t s x := by
  unfold apF appK
  rw [ht]
  exact ⟨σ0, xs, ys, τ, τ', hv, hown, hsrc, hsub, hM, hl, hb, fun v' σ' ho _ => h v' σ' ho⟩

theorem app_hvn {P : Program} {M : Nat → Prop} {σ : Heap} {t : TypeId} {s x : LV} {k : LV → Heap → Prop} {tk : Tk k} {z : LV} {sz by_ : Nat} (ht : slTy P t = some (z, sz, by_)) (σ0 : Heap) (hv : HV σ σ0) (xs ys : List LV) {τ : Heap} (τ' : Heap) (hown : Own sz s xs σ0 τ) (hsrc : Src σ0 sz x ys) (hsub : Sub τ' τ) (hM : ∀ B n, s = .msl B 0 n → M B.b ∨ B.room = n * B.sz)
    (hl : xs.length + ys.length ≤ maxLen) (hb : (xs.length + ys.length) * by_ ≤ 140737488355328) (h : ∀ v' σ', OwnE sz v' (xs ++ ys) σ' τ' → (σ'.map (·.1.b)).Nodup → k v' σ') : apF tk P M σ t s x := by
  unfold apF appK
  rw [ht]
  exact ⟨σ0, xs, ys, τ, τ', hv, hown, hsrc, hsub, hM, hl, hb, h⟩

/-- Something is put to the end: a block, in front. -/
theorem app_cons {P : Program} {M : Nat → Prop} {σ : Heap} {t : TypeId} {s x : LV} {k : LV → Heap → Prop} {tk : Tk k} {z : LV} {sz by_ : Nat} (ht : slTy P t = some (z, sz, by_)) (σ0 : Heap) (hv : HV σ σ0) (xs ys : List LV) {τ : Heap} (τ' : Heap) (hown : Own sz s xs σ0 τ) (hsrc : Src σ0 sz x ys) (hsub : Sub τ' τ) (hM : ∀ B n, s = .msl B 0 n → M B.b ∨ B.room = n * B.sz)
    (hl : xs.length + ys.length ≤ maxLen) (hb : (xs.length + ys.length) * by_ ≤ 140737488355328) (hne : xs ++ ys ≠ []) (h : ∀ b room, k (.msl ⟨b, sz, room⟩ 0 (xs.length + ys.length)) ((⟨b, sz, room⟩, xs ++ ys) :: τ')) : apF tk P M σ t s x := by
  refine app_hv ht σ0 hv xs ys τ' hown hsrc hsub hM hl hb fun v' σ' ho => ?_
  rcases ho with ⟨_, h2, _⟩ | ⟨⟨b, sz', room⟩, rfl, rfl, rfl⟩
  · exact absurd h2 hne
  · rw [List.length_append]
    exact h b room
/-- Block numbers differ. -/
theorem WC.nodup {P : Program} {n : Nat} {c : Code} {fr : Fr} {σ : Heap} {K : Exit → Fr → Heap → Prop} (h : (σ.map (·.1.b)).Nodup → Box (Tk.mk : Tk (WC P n c fr σ K))) : Box (Tk.mk : Tk (WC P n c fr σ K)) :=
  fun hfit w0 D0 G a w hR => h hR.holds.2 hfit w0 D0 G a w hR

/-- Each by a view. -/
def Views (σ τ : Heap) : List LV → List LV → Prop
  | [], [] => True
  | x :: xs, y :: ys => View σ τ x y ∧ Views σ τ xs ys
  | _, _ => False
theorem Views.length {σ τ : Heap} : ∀ {xs ys : List LV}, Views σ τ xs ys → xs.length = ys.length
  | [], [], _ => rfl
  | x :: xs, y :: ys, h => by simp [Views.length h.2]
  | [], _ :: _, h => h.elim
  | _ :: _, [], h => h.elim
theorem Views.get {σ τ : Heap} : ∀ {xs ys : List LV}, Views σ τ xs ys → ∀ (i : Nat) (x y : LV), xs[i]? = some x → ys[i]? = some y → View σ τ x y
  | [], [], _, i, x, y, h1, h2 => by simp at h1
  | a :: xs, b :: ys, h, 0, x, y, h1, h2 => by simp at h1 h2; subst h1; subst h2; exact h.1
  | a :: xs, b :: ys, h, i + 1, x, y, h1, h2 => h.2.get i x y (by simpa using h1) (by simpa using h2)
  | [], _ :: _, h, _, _, _, _, _ => h.elim
  | _ :: _, [], h, _, _, _, _, _ => h.elim
theorem LCalls.view {P : Program} {f : FuncId} {xs ys : List LV} {σ τ : Heap} {R : LV → Heap → Prop} (h : LCalls P f ys τ R) (hs : Sub τ σ) (hv : Views σ τ xs ys) : LCalls P f xs σ R := by
  refine ⟨h.1, fun G w vs hG hh hl hx => ?_⟩
  refine (h.2 G w vs (fun b hb => ⟨(hG b hb).1, fun hd => (hG b hb).2 (hs.dom hd)⟩) (hh.sub hs) (by rw [← hl, hv.length]) fun i y v hy hvv => ?_).mono fun e w' hp => ?_
  · have hi : i < xs.length := by rw [hv.length]; exact (List.getElem?_eq_some_iff.1 hy).1
    exact (hv.get i _ y (List.getElem?_eq_getElem hi) hy).2 w G v (fun b hb => (hG b hb).2) hh (hx i _ v (List.getElem?_eq_getElem hi) hvv)
  · obtain ⟨v, x, σ', he, hR, h1, h2, h3⟩ := hp
    exact ⟨v, x, σ', he, hR, h1, h2, h3.left fun b hb => hs.dom hb⟩
theorem View.lit {B : Blk} {xs : List LV} {n : Nat} {sz : Nat} {σ τ : Heap} (hsz : B.sz = sz) (hn : n = xs.length) (ho : ∀ x ∈ xs, x.cells.all LV.one = true) (hp : Sub ((B, xs) :: τ) σ) : View σ τ (.msl B 0 n) (.ro sz xs) := by
  subst hsz
  subst hn
  exact ⟨(Sub.skip _ (Sub.refl τ)).trans hp, fun w G v hG hh hv => by
    have hq := View.own (σ := (B, xs) :: τ) (τ := τ) (sz := B.sz) (.inr ⟨B, rfl, rfl, List.Perm.refl _⟩) ho
    exact hq.2 w G v (fun b hb hd => hG b hb (hp.dom hd)) (hh.sub hp) (hv.shrink fun b hb => hb.imp hp.dom _root_.id)⟩
/-- A call that is only shown what is one's own; σ1 is not kept. -/
theorem call_view {P : Program} {M : Nat → Prop} {f : FuncId} {xs ys : List LV} {σ : Heap} {k : LV → Heap → Prop} {t : Tk k} {R : LV → Heap → Prop} (σ1 τ : Heap) (hp : σ.Perm (σ1 ++ τ)) (hM : ∀ b, dom σ1 b → M b) (hv : Views σ1 [] xs ys) (h : LCalls P f ys [] R) (hk : ∀ r σ', R r σ' → k r (σ' ++ τ)) : clH t P M σ f xs :=
  ⟨σ1, τ, hp, hM, (h.view (Sub.nil _) hv).mono hk⟩
theorem call_lit {P : Program} {M : Nat → Prop} {f : FuncId} {xs ys : List LV} {p : Blk × List LV} {τ : Heap} {k : LV → Heap → Prop} {t : Tk k} {r : LV} (h : Pure P f ys r) (hM : M p.1.b) (hv : Views [p] [] xs ys) (hk : k r τ) : clH t P M (p :: τ) f xs :=
  call_view [p] τ (List.Perm.refl _) (fun b hb => by simp [dom_cons] at hb; exact hb ▸ hM) hv h fun x σ' ⟨hx, hs⟩ => by subst hx; subst hs; exact hk

/-- What a literal holds is put to the end of one's own. -/
theorem app_lit {P : Program} {M : Nat → Prop} {t : TypeId} {s : LV} {k : LV → Heap → Prop} {tk : Tk k} {z : LV} {sz by_ n : Nat} {B : Blk} {ys : List LV} {σ2 : Heap} (xs : List LV) {τ2 : Heap} (τ' : Heap) (ht : slTy P t = some (z, sz, by_)) (hB : B.sz = sz) (hn : n = ys.length) (hown : Own sz s xs σ2 τ2) (hsub : Sub τ' τ2) (hM : ∀ B n, s = .msl B 0 n → M B.b)
    (hl : xs.length + ys.length ≤ maxLen) (hb : (xs.length + ys.length) * by_ ≤ 140737488355328) (h : ∀ v' σ', Own sz v' (xs ++ ys) σ' τ' → k v' σ') : apF tk P M ((B, ys) :: σ2) t s (.msl B 0 n) := by
  refine app_go ht xs ys (τ := (B, ys) :: τ2) τ' ?_ (.inr (.inr ⟨B, 0, n, ys, rfl, hB, by simp [look], by omega, by simp [hn]⟩)) (Sub.skip _ hsub) hM hl hb h
  rcases hown with ⟨rfl, rfl, hp⟩ | ⟨C, rfl, rfl, hp⟩
  · exact .inl ⟨rfl, rfl, hp.cons _⟩
  · exact .inr ⟨C, rfl, rfl, (hp.cons _).trans (List.Perm.swap _ _ _)⟩

theorem Own.none (sz : Nat) (τ : Heap) : Own sz (.val (.slice none 0 0)) [] τ τ := .inl ⟨rfl, rfl, List.Perm.refl _⟩
theorem Own.mono {sz : Nat} {v : LV} {xs : List LV} {σ τ τ' : Heap} (h : Own sz v xs σ τ) (hs : Sub τ' τ) : ∃ σ', Sub σ' σ ∧ Own sz v xs σ' τ' := by
  rcases h with ⟨rfl, rfl, hp⟩ | ⟨B, rfl, rfl, hp⟩
  · exact ⟨τ', hs.trans (Sub.of_perm hp), Own.none _ _⟩
  · exact ⟨(B, xs) :: τ', (Sub.cons _ hs).trans (Sub.of_perm hp), .inr ⟨B, rfl, rfl, List.Perm.refl _⟩⟩
/-- A block more beside it. -/
theorem Own.more {sz : Nat} {v : LV} {xs : List LV} {σ τ : Heap} (h : Own sz v xs σ τ) (p : Blk × List LV) : Own sz v xs (p :: σ) (p :: τ) := by
  rcases h with ⟨rfl, rfl, hp⟩ | ⟨B, rfl, rfl, hp⟩
  · exact .inl ⟨rfl, rfl, hp.cons p⟩
  · exact .inr ⟨B, rfl, rfl, (hp.cons p).trans (List.Perm.swap _ _ _)⟩
theorem Own.len {sz : Nat} {v : LV} {xs : List LV} {σ τ : Heap} (h : Own sz v xs σ τ) {k : LV → Prop} {tk : Tk k} {m : Nat} (hk : k (.val (.int .i64 xs.length))) : lnF tk (some m) v := by
  rcases h with ⟨rfl, rfl, hp⟩ | ⟨B, rfl, rfl, hp⟩
  · simpa [lnF] using hk
  · simpa [lnF] using hk

/-- What is owned beside the rest lies behind it. -/
theorem WC.owned {P : Program} {n : Nat} {c : Code} {fr : Fr} {σ τ : Heap} {K : Exit → Fr → Heap → Prop} {sz : Nat} {v : LV} {xs : List LV} (hown : Own sz v xs σ τ) (h : ∀ ρ, Own sz v xs ρ [] → Box (Tk.mk : Tk (WC P n c fr (τ ++ ρ) K))) : Box (Tk.mk : Tk (WC P n c fr σ K)) := by
  rcases hown with ⟨rfl, rfl, hp⟩ | ⟨B, rfl, rfl, hp⟩
  · refine WC.drop ?_ (h [] (Own.none _ _))
    rw [List.append_nil]
    exact Sub.of_perm hp
  · refine WC.drop ?_ (h [(B, xs)] (.inr ⟨B, rfl, rfl, List.Perm.refl _⟩))
    exact Sub.of_perm (hp.trans (List.perm_append_comm (l₁ := [(B, xs)])))
end Go.Ls
