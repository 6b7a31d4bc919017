/- The law ModesChange, whole. It bears no statement of its own. -/
import Derived.Test.YtjamehpnclkjdaaS23
import Derived.Test.YtjamehpnclkjdaaS27
import Derived.Test.YtjamehpnclkjdaaS28
namespace Go.Proofs.Ytjamehpnclkjdaa
open Go Go.Ls
set_option linter.unusedVariables false
set_option linter.unusedSimpArgs false
set_option maxRecDepth 100000
attribute [local irreducible] Box drawF

def JobsD (ls : List Int) (b0 n : Nat) (r : LV) (σ : Heap) : Prop := ∃ (a' : Nat) (js : List Jb) (c room : Nat), a' ≤ ls.length ∧ Jobs n js ∧ r = .msl ⟨c, 7, room⟩ 0 js.length ∧ σ = [(dk b0, deck ls a'), (⟨c, 7, room⟩, js.map Jb.lv)]
theorem jobsD (ls : List Int) (a0 b0 : Nat) (n : Int) (ha0 : a0 ≤ ls.length) (hl : ls.length ≤ 1152921504606846976) (h0 : 1 ≤ n) (h1 : n ≤ 1000) :
    LCalls Try.prog 17 [.ref (dk b0) 0 0, I n] [(dk b0, deck ls a0)] (JobsD ls b0 n.toNat) := (jobsC ls a0 b0 n ha0 hl h0 h1).mono fun r σ h => by
  obtain ⟨a', js, c, room, ha, hjs, rfl, rfl⟩ := h
  exact ⟨a', js, c, room, ha, hjs, by rw [hjs.1], rfl⟩
theorem Own.canon {sz : Nat} {v : LV} {xs : List LV} {σ τ : Heap} (h : Own sz v xs σ τ) : ∃ P, Own sz v xs P [] ∧ σ.Perm (τ ++ P) := by
  rcases h with ⟨rfl, rfl, hp⟩ | ⟨B, hB, rfl, hp⟩
  · exact ⟨[], Own.none _ _, by simpa using hp⟩
  · exact ⟨[(B, xs)], .inr ⟨B, hB, rfl, List.Perm.refl _⟩, hp.trans (List.perm_append_comm (l₁ := [(B, xs)]))⟩
def RelO (ls : List Int) (b0 n : Nat) (js : List Jb) (cj rj : Nat) (f u : Int) (r : LV) (σ : Heap) : Prop := ∃ (a' : Nat) (l : List Rl) (P : Heap), a' ≤ ls.length ∧ l.length ≤ 41 ∧ RelOk n f u l ∧ Own 3 r (l.map Rl.lv) P [] ∧ σ = (dk b0, deck ls a') :: (⟨cj, 7, rj⟩, js.map Jb.lv) :: P
theorem relO (ls : List Int) (a0 b0 n cj rj : Nat) (js : List Jb) (f u : Int) (ha0 : a0 ≤ ls.length) (hl : ls.length ≤ 1152921504606846976) (hjs : Jobs n js) (hn : n ≤ 1000) (hf : 0 ≤ f ∧ f ≤ 2000) (hu : 0 ≤ u ∧ u ≤ 2000) :
    LCalls Try.prog 19 [.ref (dk b0) 0 0, .msl ⟨cj, 7, rj⟩ 0 js.length, I f, I u] [(dk b0, deck ls a0), (⟨cj, 7, rj⟩, js.map Jb.lv)] (RelO ls b0 n js cj rj f u) := (releases19o ls a0 b0 n cj rj js f u ha0 hl hjs hn hf hu).seen fun r σ h => by
  obtain ⟨a', l, ha, hll, hok, hown⟩ := h
  obtain ⟨P, hP, hp⟩ := Own.canon hown
  exact ⟨r, _, View.of_sub (Sub.of_perm hp), a', l, P, ha, hll, hok, hP, rfl⟩
def RelN (ls : List Int) (b0 n : Nat) (f u : Int) (r : LV) (σ : Heap) : Prop := ∃ (a' : Nat) (l : List Rl) (P : Heap), a' ≤ ls.length ∧ l.length ≤ 41 ∧ RelOk n f u l ∧ Own 3 r (l.map Rl.lv) P [] ∧ σ = (dk b0, deck ls a') :: P
theorem relN (ls : List Int) (a0 b0 n : Nat) (js : List Jb) (f u : Int) (ha0 : a0 ≤ ls.length) (hl : ls.length ≤ 1152921504606846976) (hjs : Jobs n js) (hn : n ≤ 1000) (hf : 0 ≤ f ∧ f ≤ 2000) (hu : 0 ≤ u ∧ u ≤ 2000) :
    LCalls Try.prog 19 [.ref (dk b0) 0 0, .ro 7 (js.map Jb.lv), I f, I u] [(dk b0, deck ls a0)] (RelN ls b0 n f u) := (releases19 ls a0 b0 n js f u ha0 hl hjs hn hf hu).seen fun r σ h => by
  obtain ⟨a', l, ha, hll, hok, hown⟩ := h
  obtain ⟨P, hP, hp⟩ := Own.canon hown
  exact ⟨r, _, View.of_sub (Sub.of_perm hp), a', l, P, ha, hll, hok, hP, rfl⟩
/-- One's own list at the end of another one. -/
theorem app_two {P : Program} {M : Nat → Prop} {t : TypeId} {s x : LV} {k : LV → Heap → Prop} {tk : Tk k} {z : LV} {sz by_ : Nat} {xs ys : List LV} {P1 P2 : Heap} (ht : slTy P t = some (z, sz, by_)) (p : Blk × List LV) (τ : Heap) (h1 : Own sz s xs P1 []) (h2 : Own sz x ys P2 []) (hp : p.1.sz ≠ sz ∨ True) (hl : xs.length + ys.length ≤ maxLen) (hb : (xs.length + ys.length) * by_ ≤ 140737488355328)
    (hM : ∀ B n, s = .msl B 0 n → M B.b) (h : ∀ v' σ', Own sz v' (xs ++ ys) σ' (p :: τ) → k v' σ') {q : Blk × List LV} {r : Blk × List LV} (hτ : τ = [q, r]) (hq : p.1.sz ≠ sz) : apF tk P M (p :: (P2 ++ q :: (P1 ++ [r]))) t s x := by
  subst hτ
  have o1 : Own sz s xs (p :: (P2 ++ q :: (P1 ++ [r]))) (p :: (P2 ++ [q, r])) := by
    have := (h1.frame (p :: (P2 ++ [q, r])))
    refine this.perm ?_
    refine (List.Perm.cons p ?_).trans List.perm_middle.symm
    have e : (P2 ++ q :: (P1 ++ [r])).Perm (P1 ++ (P2 ++ [q, r])) := by
      refine List.Perm.trans ?_ (List.perm_append_comm_assoc P2 P1 [q, r])
      exact List.Perm.append_left P2 (List.perm_middle (l₁ := P1) (a := q) (l₂ := [r])).symm
    exact e
  have hsub : Sub [p, q, r] (p :: (P2 ++ [q, r])) := Sub.cons _ (Sub.skips P2)
  rcases h2 with ⟨rfl, rfl, h2⟩ | ⟨B, hB, rfl, h2⟩
  · exact app_go ht xs [] (τ := p :: (P2 ++ [q, r])) [p, q, r] o1 (.inr (.inl ⟨rfl, rfl⟩)) hsub hM hl hb h
  · have e : P2 = [(B, ys)] := List.perm_singleton.1 h2
    subst e
    refine app_go ht xs ys (τ := p :: ([(B, ys)] ++ [q, r])) [p, q, r] o1 (.inr (.inr ⟨B, 0, ys.length, ys, rfl, hB, ?_, by omega, by simp⟩)) hsub hM hl hb h
    have : B ≠ p.1 := fun e => hq (by rw [← e]; exact hB)
    simp [look, this]
theorem feT_tup (l m : List Jb) (x : Rt) (ins miss : Int) : ∃ a e, feT l m x ins miss = .tup [I a, I e] := by
  unfold feT
  split
  · exact ⟨_, _, rfl⟩
  · split
    · exact ⟨_, _, rfl⟩
    · exact ⟨_, _, rfl⟩
def wpe (j : Jb) (c : Int) : Jb := ⟨c, j.de, j.ji, j.pr, j.co, j.se, j.ev⟩
theorem fit_set {l : List Jb} (h : Fit l) {i : Nat} {j : Jb} (hj : j.se.length ≤ 1152921504606846976) : Fit (l.set i j) := by
  refine ⟨by rw [List.length_set]; exact h.1, fun e he => ?_⟩
  rcases List.mem_or_eq_of_mem_set he with he | rfl
  · exact h.2 e he
  · exact hj

set_option maxHeartbeats 8000000 in
theorem law15 (ls : List Int) (p q s : Int) (hl : ls.length ≤ 1152921504606846976) : LCalls Try.prog 15 [.ro 1 (ls.map I), I p, I q, I s] [] fun r σ => r = Bo true := by
  refine lcalls_go (rts := [.tmp 8]) Try.func15 rfl rfl rfl rfl rfl ?_
  refine WC.on mixed rfl ?_
  repeat' first
    | (refine new_block fun b hb => ?_; try simp at hb)
    | (refine call_new (new16 _) ?_; rintro _ _ ⟨bd, rfl, rfl⟩)
    | (refine next_a (n := 3) hl (by first | assumption | exact Nat.zero_le _) (by omega) (by omega) trivial fun a v ha h0 h1 => ?_)
    | (refine call_split [(dk _, deck ls _)] [] (List.Perm.refl _) (fun _ _ => trivial) (jobsD ls _ _ _ (by assumption) hl (by omega) (by omega)) ?_; rintro _ _ ⟨a2, js, c, room, ha2, hjs, rfl, rfl⟩; have hq1 : 1 ≤ js.length ∧ js.length ≤ 3 := (by have := hjs.1; omega))
    | (refine call_split [(dk _, deck ls _)] [_] (List.Perm.refl _) (fun _ _ => trivial) (jobsD ls _ _ _ (by assumption) hl (by omega) (by omega)) ?_; rintro _ _ ⟨a4, js2, c2, room2, ha4, hjs2, rfl, rfl⟩; have hq2 : 1 ≤ js2.length ∧ js2.length ≤ 3 := (by have := hjs2.1; omega))
    | (refine call_split [(dk _, deck ls _)] [_, _] (List.Perm.refl _) (fun _ _ => trivial) (rates23 ls _ _ (by assumption) hl) ?_; rintro _ _ ⟨x, a3, ha3, rfl, hxo, rfl⟩)
    | simp -dsimp []
    | simp -dsimp (disch := omega) only [w64]
    | refine And.intro (by omega) ?_
    | simp -dsimp [*]
    | refine And.intro ?_ ?_
    | intro h
    | done
  refine WC.on mixed rfl ?_
  repeat' first
    | (refine new_block fun b hb => ?_; try simp at hb)
    | (refine call_new (new16 _) ?_; rintro _ _ ⟨bd, rfl, rfl⟩)
    | (refine next_a (n := 3) hl (by first | assumption | exact Nat.zero_le _) (by omega) (by omega) trivial fun a v ha h0 h1 => ?_)
    | (refine call_split [(dk _, deck ls _)] [] (List.Perm.refl _) (fun _ _ => trivial) (jobsD ls _ _ _ (by assumption) hl (by omega) (by omega)) ?_; rintro _ _ ⟨a2, js, c, room, ha2, hjs, rfl, rfl⟩; have hq1 : 1 ≤ js.length ∧ js.length ≤ 3 := (by have := hjs.1; omega))
    | (refine call_split [(dk _, deck ls _)] [_] (List.Perm.refl _) (fun _ _ => trivial) (jobsD ls _ _ _ (by assumption) hl (by omega) (by omega)) ?_; rintro _ _ ⟨a4, js2, c2, room2, ha4, hjs2, rfl, rfl⟩; have hq2 : 1 ≤ js2.length ∧ js2.length ≤ 3 := (by have := hjs2.1; omega))
    | (refine call_split [(dk _, deck ls _)] [_, _] (List.Perm.refl _) (fun _ _ => trivial) (rates23 ls _ _ (by assumption) hl) ?_; rintro _ _ ⟨x, a3, ha3, rfl, hxo, rfl⟩)
    | simp -dsimp []
    | simp -dsimp (disch := omega) only [w64]
    | refine And.intro (by omega) ?_
    | simp -dsimp [*]
    | refine And.intro ?_ ?_
    | intro h
    | done
  refine WC.on mixed rfl ?_
  repeat' first
    | (refine new_block fun b hb => ?_; try simp at hb)
    | (refine call_new (new16 _) ?_; rintro _ _ ⟨bd, rfl, rfl⟩)
    | (refine next_a (n := 3) hl (by first | assumption | exact Nat.zero_le _) (by omega) (by omega) trivial fun a v ha h0 h1 => ?_)
    | (refine call_split [(dk _, deck ls _)] [] (List.Perm.refl _) (fun _ _ => trivial) (jobsD ls _ _ _ (by assumption) hl (by omega) (by omega)) ?_; rintro _ _ ⟨a2, js, c, room, ha2, hjs, rfl, rfl⟩; have hq1 : 1 ≤ js.length ∧ js.length ≤ 3 := (by have := hjs.1; omega))
    | (refine call_split [(dk _, deck ls _)] [_] (List.Perm.refl _) (fun _ _ => trivial) (jobsD ls _ _ _ (by assumption) hl (by omega) (by omega)) ?_; rintro _ _ ⟨a4, js2, c2, room2, ha4, hjs2, rfl, rfl⟩; have hq2 : 1 ≤ js2.length ∧ js2.length ≤ 3 := (by have := hjs2.1; omega))
    | (refine call_split [(dk _, deck ls _)] [_, _] (List.Perm.refl _) (fun _ _ => trivial) (rates23 ls _ _ (by assumption) hl) ?_; rintro _ _ ⟨x, a3, ha3, rfl, hxo, rfl⟩)
    | simp -dsimp []
    | simp -dsimp (disch := omega) only [w64]
    | refine And.intro (by omega) ?_
    | simp -dsimp [*]
    | refine And.intro ?_ ?_
    | intro h
    | done
  obtain ⟨b1, hb1⟩ : ∃ b1, b1 = b := ⟨b, rfl⟩
  subst hb1
  have hf1 := hjs.fit (by have := hjs.1; omega)
  have hf2 := hjs2.fit (by have := hjs2.1; omega)
  refine WC.view 11 (y := .ro 7 (js2.map Jb.lv)) (τ := [(⟨b1, 6, 6⟩, [x.lv]), (dk bd, deck ls a3), (⟨c, 7, room⟩, js.map Jb.lv)]) (by simp -dsimp; exact View.lit rfl (by rw [List.length_map]) (Jb.ones js2) (Sub.pick [_, _] (Sub.refl _))) ?_
  refine WC.on mixed rfl ?_
  repeat' first
    | (refine new_block fun b hb => ?_; try simp at hb)
    | (refine next_b (n := 200) hl (by assumption) (by omega) (by omega) trivial fun a t0 ha t1 t2 => ?_)
    | (refine next_a (n := 150) hl (by assumption) (by omega) (by omega) trivial fun a o0 ha o1 o2 => ?_)
    | simp -dsimp []
    | simp -dsimp (disch := omega) only [w64]
    | refine And.intro (by omega) ?_
    | simp -dsimp [*]
    | refine And.intro ?_ ?_
    | intro h
    | done
  refine WC.on mixed rfl ?_
  repeat' first
    | (refine new_block fun b hb => ?_; try simp at hb)
    | (refine call_split [(dk bd, deck ls _), (⟨c, 7, room⟩, js.map Jb.lv)] [(⟨b1, 6, 6⟩, [x.lv])] ((List.Perm.swap _ _ _).cons _) (fun _ _ => trivial) (relO ls _ bd _ c room js 0 (300 + t0) (by assumption) hl hjs (by have := hjs.1; omega) (by omega) (by omega)) ?_; rintro v45 _ ⟨a5, l1, P1, ha5, hl1, hok1, hown1, rfl⟩)
    | (refine next_a (n := 2) hl (by assumption) (by omega) (by omega) trivial fun a g0 ha g1 g2 => ?_; have hg0 : g0 = 0 ∨ g0 = 1 := (by omega))
    | (refine next_a (n := 20) hl (by assumption) (by omega) (by omega) trivial fun a k0 ha k1 k2 => ?_; have hpr : 0 ≤ g0 * k0 ∧ g0 * k0 ≤ 19 := (by rcases hg0 with rfl | rfl <;> omega))
    | (refine call_split [(dk bd, deck ls _)] ((⟨c, 7, room⟩, js.map Jb.lv) :: (P1 ++ [(⟨b1, 6, 6⟩, [x.lv])])) (List.Perm.refl _) (fun _ _ => trivial) (relN ls _ bd _ js2 (300 + t0 + o0 - g0 * k0) 1200 (by assumption) hl hjs2 (by have := hjs2.1; omega) (by omega) (by omega)) ?_; rintro v57 _ ⟨a6, l2, P2, ha6, hl2, hok2, hown2, rfl⟩)
    | (refine app_two (sz := 3) ty_sl28 (dk bd, deck ls _) [(⟨c, 7, room⟩, js.map Jb.lv), (⟨b1, 6, 6⟩, [x.lv])] hown1 hown2 (.inr trivial) (by simp [maxLen]; omega) (by simp; omega) (fun _ _ _ => trivial) (fun v15 σ15 hown15 => ?_) rfl (by simp))
    | simp -dsimp []
    | simp -dsimp (disch := omega) only [w64]
    | refine And.intro (by omega) ?_
    | simp -dsimp [*]
    | refine And.intro ?_ ?_
    | intro h
    | done
  obtain ⟨L, hL⟩ : ∃ L, L = l1 ++ l2 := ⟨_, rfl⟩
  have hLl : L.length ≤ 82 := by rw [hL, List.length_append]; omega
  rw [← List.map_append, ← hL] at hown15
  obtain ⟨T, hT⟩ : ∃ T, 300 + t0 = T := ⟨_, rfl⟩
  have hTw : IntKind.i64.wrap T = T := w64 (by omega) (by omega)
  refine WC.view 15 (y := .ro 3 (L.map Rl.lv)) (τ := [(dk bd, deck ls a6), (⟨c, 7, room⟩, js.map Jb.lv), (⟨b1, 6, 6⟩, [x.lv])]) (by simpa -dsimp using View.own hown15 (Rl.ones L)) ?_
  clear hown15 hown1 hown2 hok1 hok2
  repeat' first
    | refine WC.on mixed rfl ?_
    | (refine new_block fun b hb => ?_; try simp at hb)
    | refine call_pure (mod25 _ _ (by omega) (by omega)) ?_
    | simp -dsimp [hT, hTw]
    | simp -dsimp (disch := omega) only [w64]
    | refine And.intro (by omega) ?_
    | simp -dsimp [*]
    | refine And.intro ?_ ?_
    | intro h
    | done
  obtain ⟨bL, hbL⟩ : ∃ bL, bL = b := ⟨b, rfl⟩
  subst hbL
  refine WC.loop (fun m fr σ => ∃ i : Nat, i ≤ 4 ∧ m = 4 - i ∧ σ = [(⟨bL, 2, 8⟩, [.agg [I o0, I T], .agg [I p, I T], .agg [I o0, I q], .agg [I (p % 300), I (q % 700)]]), (dk bd, deck ls a6), (⟨c, 7, room⟩, js.map Jb.lv), (⟨b1, 6, 6⟩, [x.lv])] ∧ fr 3 = I s ∧ fr 9 = .ref (dk bd) 0 0 ∧ fr 10 = .msl ⟨c, 7, room⟩ 0 js.length ∧ fr 11 = .ro 7 (js2.map Jb.lv) ∧ fr 12 = .ref ⟨b1, 6, 6⟩ 0 0 ∧ fr 13 = I T ∧ fr 14 = I o0 ∧ fr 15 = .ro 3 (L.map Rl.lv) ∧ fr 73 = .msl ⟨bL, 2, 8⟩ 0 4 ∧ fr 74 = I 4 ∧ fr 75 = I i) 4 ⟨0, by omega, rfl, by simp -dsimp [hT, hTw], by simp -dsimp [hT, hTw]⟩ ?_
  rintro m fr σ ⟨i, hi, rfl, rfl, f3, f9, f10, f11, f12, f13, f14, f15, f73, f74, f75⟩
  have hi' : i = 0 ∨ i = 1 ∨ i = 2 ∨ i = 3 ∨ i = 4 := by omega
  rcases hi' with rfl | rfl | rfl | rfl | rfl
  · refine WC.nodup fun hnd => ?_
    simp at hnd
    have hcb : ∀ z : Nat, ¬ c = z → ¬ z = c := fun z h e => h e.symm
    repeat' first
      | refine WC.on mixed rfl ?_
      | (refine new_block fun b hb => ?_; try simp at hb)
      | refine draw_plan 8 [c] [(0, 0), (1, 0), (2, 0), (4, 0), (6, 0), (8, 0), (9, 0), (10, 0), (12, 0), (14, 0), (3, 1), (5, 1), (11, 1), (13, 1), (7, 2), (15, 2), (16, 0)] (by kernel_rfl) rfl ?_
      | refine plan_nil ?_
      | refine plan_none rfl (by simp) ?_
      | refine plan_some rfl rfl (by simp) ?_
      | (refine call_lend_pure [(⟨c, 7, room⟩, js.map Jb.lv)] [_, _, _, _] (List.perm_middle (l₁ := [_, _, _])) (fun b hb => by simp [dom_cons] at hb; simp [hb]) (ys := [.ro 7 (js.map Jb.lv), .ro 7 (js2.map Jb.lv), I (o0), I (T), .ro 3 (L.map Rl.lv)]) ⟨View.lit rfl (by simp) (Jb.ones _) (Sub.refl _), View.of_sub (Sub.nil _), View.of_sub (Sub.nil _), View.of_sub (Sub.nil _), View.of_sub (Sub.nil _), trivial⟩ (change47 js js2 (o0) (T) L hf1 hf2 (by omega)) (.val _) ?_)
      | (refine call_lend_pure [(⟨c, 7, room⟩, js.map Jb.lv)] [_, _, _, _] (List.Perm.refl _) (fun b hb => by simp [dom_cons] at hb; simp [hb]) (ys := [.ro 7 (js.map Jb.lv), .ro 7 (js2.map Jb.lv), I (o0), I (T), .ro 3 (L.map Rl.lv)]) ⟨View.lit rfl (by simp) (Jb.ones _) (Sub.refl _), View.of_sub (Sub.nil _), View.of_sub (Sub.nil _), View.of_sub (Sub.nil _), View.of_sub (Sub.nil _), trivial⟩ (change48 js js2 (o0) (T) L hf1 hf2 (by omega)) (.val _) ?_)
      | simp -dsimp [f3, f9, f10, f11, f12, f13, f14, f15, f73, f74, f75]
      | simp -dsimp (disch := omega) only [w64]
      | refine And.intro (by omega) ?_
      | simp -dsimp [*]
      | refine And.intro ?_ ?_
      | intro h
      | done
    all_goals first
      | (exfalso; omega)
      | exact Round.go (4 - (0 + 1)) [(⟨bL, 2, 8⟩, [.agg [I o0, I T], .agg [I p, I T], .agg [I o0, I q], .agg [I (p % 300), I (q % 700)]]), (dk bd, deck ls a6), (⟨c, 7, room⟩, js.map Jb.lv), (⟨b1, 6, 6⟩, [x.lv])] (by omega) (Sub.pick [_, _] (Sub.pick [_, _] (Sub.cons _ (Sub.skip _ (Sub.refl _))))) ⟨0 + 1, by omega, rfl, rfl, by simp -dsimp [f3, f9, f10, f11, f12, f13, f14, f15, f73, f74, f75]⟩
  · refine WC.nodup fun hnd => ?_
    simp at hnd
    have hcb : ∀ z : Nat, ¬ c = z → ¬ z = c := fun z h e => h e.symm
    repeat' first
      | refine WC.on mixed rfl ?_
      | (refine new_block fun b hb => ?_; try simp at hb)
      | refine draw_plan 8 [c] [(0, 0), (1, 0), (2, 0), (4, 0), (6, 0), (8, 0), (9, 0), (10, 0), (12, 0), (14, 0), (3, 1), (5, 1), (11, 1), (13, 1), (7, 2), (15, 2), (16, 0)] (by kernel_rfl) rfl ?_
      | refine plan_nil ?_
      | refine plan_none rfl (by simp) ?_
      | refine plan_some rfl rfl (by simp) ?_
      | (refine call_lend_pure [(⟨c, 7, room⟩, js.map Jb.lv)] [_, _, _, _] (List.perm_middle (l₁ := [_, _, _])) (fun b hb => by simp [dom_cons] at hb; simp [hb]) (ys := [.ro 7 (js.map Jb.lv), .ro 7 (js2.map Jb.lv), I (p), I (T), .ro 3 (L.map Rl.lv)]) ⟨View.lit rfl (by simp) (Jb.ones _) (Sub.refl _), View.of_sub (Sub.nil _), View.of_sub (Sub.nil _), View.of_sub (Sub.nil _), View.of_sub (Sub.nil _), trivial⟩ (change47 js js2 (p) (T) L hf1 hf2 (by omega)) (.val _) ?_)
      | (refine call_lend_pure [(⟨c, 7, room⟩, js.map Jb.lv)] [_, _, _, _] (List.Perm.refl _) (fun b hb => by simp [dom_cons] at hb; simp [hb]) (ys := [.ro 7 (js.map Jb.lv), .ro 7 (js2.map Jb.lv), I (p), I (T), .ro 3 (L.map Rl.lv)]) ⟨View.lit rfl (by simp) (Jb.ones _) (Sub.refl _), View.of_sub (Sub.nil _), View.of_sub (Sub.nil _), View.of_sub (Sub.nil _), View.of_sub (Sub.nil _), trivial⟩ (change48 js js2 (p) (T) L hf1 hf2 (by omega)) (.val _) ?_)
      | simp -dsimp [f3, f9, f10, f11, f12, f13, f14, f15, f73, f74, f75]
      | simp -dsimp (disch := omega) only [w64]
      | refine And.intro (by omega) ?_
      | simp -dsimp [*]
      | refine And.intro ?_ ?_
      | intro h
      | done
    all_goals first
      | (exfalso; omega)
      | exact Round.go (4 - (1 + 1)) [(⟨bL, 2, 8⟩, [.agg [I o0, I T], .agg [I p, I T], .agg [I o0, I q], .agg [I (p % 300), I (q % 700)]]), (dk bd, deck ls a6), (⟨c, 7, room⟩, js.map Jb.lv), (⟨b1, 6, 6⟩, [x.lv])] (by omega) (Sub.pick [_, _] (Sub.pick [_, _] (Sub.cons _ (Sub.skip _ (Sub.refl _))))) ⟨1 + 1, by omega, rfl, rfl, by simp -dsimp [f3, f9, f10, f11, f12, f13, f14, f15, f73, f74, f75]⟩
  · refine WC.nodup fun hnd => ?_
    simp at hnd
    have hcb : ∀ z : Nat, ¬ c = z → ¬ z = c := fun z h e => h e.symm
    repeat' first
      | refine WC.on mixed rfl ?_
      | (refine new_block fun b hb => ?_; try simp at hb)
      | refine draw_plan 8 [c] [(0, 0), (1, 0), (2, 0), (4, 0), (6, 0), (8, 0), (9, 0), (10, 0), (12, 0), (14, 0), (3, 1), (5, 1), (11, 1), (13, 1), (7, 2), (15, 2), (16, 0)] (by kernel_rfl) rfl ?_
      | refine plan_nil ?_
      | refine plan_none rfl (by simp) ?_
      | refine plan_some rfl rfl (by simp) ?_
      | (refine call_lend_pure [(⟨c, 7, room⟩, js.map Jb.lv)] [_, _, _, _] (List.perm_middle (l₁ := [_, _, _])) (fun b hb => by simp [dom_cons] at hb; simp [hb]) (ys := [.ro 7 (js.map Jb.lv), .ro 7 (js2.map Jb.lv), I (o0), I (q), .ro 3 (L.map Rl.lv)]) ⟨View.lit rfl (by simp) (Jb.ones _) (Sub.refl _), View.of_sub (Sub.nil _), View.of_sub (Sub.nil _), View.of_sub (Sub.nil _), View.of_sub (Sub.nil _), trivial⟩ (change47 js js2 (o0) (q) L hf1 hf2 (by omega)) (.val _) ?_)
      | (refine call_lend_pure [(⟨c, 7, room⟩, js.map Jb.lv)] [_, _, _, _] (List.Perm.refl _) (fun b hb => by simp [dom_cons] at hb; simp [hb]) (ys := [.ro 7 (js.map Jb.lv), .ro 7 (js2.map Jb.lv), I (o0), I (q), .ro 3 (L.map Rl.lv)]) ⟨View.lit rfl (by simp) (Jb.ones _) (Sub.refl _), View.of_sub (Sub.nil _), View.of_sub (Sub.nil _), View.of_sub (Sub.nil _), View.of_sub (Sub.nil _), trivial⟩ (change48 js js2 (o0) (q) L hf1 hf2 (by omega)) (.val _) ?_)
      | simp -dsimp [f3, f9, f10, f11, f12, f13, f14, f15, f73, f74, f75]
      | simp -dsimp (disch := omega) only [w64]
      | refine And.intro (by omega) ?_
      | simp -dsimp [*]
      | refine And.intro ?_ ?_
      | intro h
      | done
    all_goals first
      | (exfalso; omega)
      | exact Round.go (4 - (2 + 1)) [(⟨bL, 2, 8⟩, [.agg [I o0, I T], .agg [I p, I T], .agg [I o0, I q], .agg [I (p % 300), I (q % 700)]]), (dk bd, deck ls a6), (⟨c, 7, room⟩, js.map Jb.lv), (⟨b1, 6, 6⟩, [x.lv])] (by omega) (Sub.pick [_, _] (Sub.pick [_, _] (Sub.cons _ (Sub.skip _ (Sub.refl _))))) ⟨2 + 1, by omega, rfl, rfl, by simp -dsimp [f3, f9, f10, f11, f12, f13, f14, f15, f73, f74, f75]⟩
  · refine WC.nodup fun hnd => ?_
    simp at hnd
    have hcb : ∀ z : Nat, ¬ c = z → ¬ z = c := fun z h e => h e.symm
    repeat' first
      | refine WC.on mixed rfl ?_
      | (refine new_block fun b hb => ?_; try simp at hb)
      | refine draw_plan 8 [c] [(0, 0), (1, 0), (2, 0), (4, 0), (6, 0), (8, 0), (9, 0), (10, 0), (12, 0), (14, 0), (3, 1), (5, 1), (11, 1), (13, 1), (7, 2), (15, 2), (16, 0)] (by kernel_rfl) rfl ?_
      | refine plan_nil ?_
      | refine plan_none rfl (by simp) ?_
      | refine plan_some rfl rfl (by simp) ?_
      | (refine call_lend_pure [(⟨c, 7, room⟩, js.map Jb.lv)] [_, _, _, _] (List.perm_middle (l₁ := [_, _, _])) (fun b hb => by simp [dom_cons] at hb; simp [hb]) (ys := [.ro 7 (js.map Jb.lv), .ro 7 (js2.map Jb.lv), I (p % 300), I (q % 700), .ro 3 (L.map Rl.lv)]) ⟨View.lit rfl (by simp) (Jb.ones _) (Sub.refl _), View.of_sub (Sub.nil _), View.of_sub (Sub.nil _), View.of_sub (Sub.nil _), View.of_sub (Sub.nil _), trivial⟩ (change47 js js2 (p % 300) (q % 700) L hf1 hf2 (by omega)) (.val _) ?_)
      | (refine call_lend_pure [(⟨c, 7, room⟩, js.map Jb.lv)] [_, _, _, _] (List.Perm.refl _) (fun b hb => by simp [dom_cons] at hb; simp [hb]) (ys := [.ro 7 (js.map Jb.lv), .ro 7 (js2.map Jb.lv), I (p % 300), I (q % 700), .ro 3 (L.map Rl.lv)]) ⟨View.lit rfl (by simp) (Jb.ones _) (Sub.refl _), View.of_sub (Sub.nil _), View.of_sub (Sub.nil _), View.of_sub (Sub.nil _), View.of_sub (Sub.nil _), trivial⟩ (change48 js js2 (p % 300) (q % 700) L hf1 hf2 (by omega)) (.val _) ?_)
      | simp -dsimp [f3, f9, f10, f11, f12, f13, f14, f15, f73, f74, f75]
      | simp -dsimp (disch := omega) only [w64]
      | refine And.intro (by omega) ?_
      | simp -dsimp [*]
      | refine And.intro ?_ ?_
      | intro h
      | done
    all_goals first
      | (exfalso; omega)
      | exact Round.go (4 - (3 + 1)) [(⟨bL, 2, 8⟩, [.agg [I o0, I T], .agg [I p, I T], .agg [I o0, I q], .agg [I (p % 300), I (q % 700)]]), (dk bd, deck ls a6), (⟨c, 7, room⟩, js.map Jb.lv), (⟨b1, 6, 6⟩, [x.lv])] (by omega) (Sub.pick [_, _] (Sub.pick [_, _] (Sub.cons _ (Sub.skip _ (Sub.refl _))))) ⟨3 + 1, by omega, rfl, rfl, by simp -dsimp [f3, f9, f10, f11, f12, f13, f14, f15, f73, f74, f75]⟩
  have s0 := Int.emod_nonneg s (b := 110) (by omega)
  have s1 := Int.emod_lt_of_pos s (b := 110) (by omega)
  refine WC.on mixed rfl ?_
  repeat' first
    | (refine new_block fun b hb => ?_; try simp at hb)
    | simp -dsimp [f3, f9, f10, f11, f12, f13, f14, f15, f73, f74, f75]
    | simp -dsimp (disch := omega) only [w64]
    | refine And.intro (by omega) ?_
    | simp -dsimp [*]
    | refine And.intro ?_ ?_
    | intro h
    | done
  refine WC.on mixed rfl ?_
  repeat' first
    | (refine new_block fun b hb => ?_; try simp at hb)
    | simp -dsimp [f3, f9, f10, f11, f12, f13, f14, f15, f73, f74, f75]
    | simp -dsimp (disch := omega) only [w64]
    | refine And.intro (by omega) ?_
    | simp -dsimp [*]
    | refine And.intro ?_ ?_
    | intro h
    | done
  refine WC.on mixed rfl ?_
  repeat' first
    | (refine new_block fun b hb => ?_; try simp at hb)
    | simp -dsimp [f3, f9, f10, f11, f12, f13, f14, f15, f73, f74, f75]
    | simp -dsimp (disch := omega) only [w64]
    | refine And.intro (by omega) ?_
    | simp -dsimp [*]
    | refine And.intro ?_ ?_
    | intro h
    | done
  refine WC.on mixed rfl ?_
  repeat' first
    | (refine new_block fun b hb => ?_; try simp at hb)
    | (refine next_b (n := 6) hl (by assumption) (by omega) (by omega) trivial fun a w ha w0 w1 => ?_)
    | simp -dsimp [f3, f9, f10, f11, f12, f13, f14, f15, f73, f74, f75]
    | simp -dsimp (disch := omega) only [w64]
    | refine And.intro (by omega) ?_
    | simp -dsimp [*]
    | refine And.intro ?_ ?_
    | intro h
    | done
  have h00 : 0 < js.length := by omega
  have hz : js[0]? = some js[0] := List.getElem?_eq_getElem h00
  by_cases hw : w = 0
  · subst hw
    have hfj0 : Fit (js.set 0 (wpe js[0] 0)) := fit_set hf1 (hf1.2 js[0] (List.getElem_mem h00))
    have hmap : (js.map Jb.lv).set 0 (wpe js[0] 0).lv = (js.set 0 (wpe js[0] 0)).map Jb.lv := by rw [List.map_set]
    have hlen0 : (js.set 0 (wpe js[0] 0)).length = js.length := List.length_set
    obtain ⟨js0, hjs0⟩ : ∃ js0, js.set 0 (wpe js[0] 0) = js0 := ⟨_, rfl⟩
    rw [hjs0] at hmap hfj0 hlen0
    have hfj := hfj0
    simp only [wpe, Jb.lv] at hmap
    clear hjs0 hfj0
    refine WC.on mixed rfl ?_
    repeat' first
      | (refine new_block fun b hb => ?_; try simp at hb)
      | simp -dsimp [f3, f9, f10, f11, f12, f13, f14, f15, f73, f74, f75, h00, hz, hmap]
      | simp -dsimp (disch := omega) only [w64]
      | refine And.intro (by omega) ?_
      | simp -dsimp [*]
      | refine And.intro ?_ ?_
      | intro h
      | done
    refine WC.on mixed rfl ?_
    repeat' first
      | (refine new_block fun b hb => ?_; try simp at hb)
      | simp -dsimp [f3, f9, f10, f11, f12, f13, f14, f15, f73, f74, f75, h00, hz, hmap]
      | simp -dsimp (disch := omega) only [w64]
      | refine And.intro (by omega) ?_
      | simp -dsimp [*]
      | refine And.intro ?_ ?_
      | intro h
      | done
    refine WC.view 10 (y := .ro 7 (js0.map Jb.lv)) (τ := [(⟨b1, 6, 6⟩, [x.lv])]) (by simp -dsimp [f10]; exact View.lit rfl (by simp [hlen0]) (Jb.ones _) (Sub.pick [_, _] (Sub.skip _ (Sub.skip _ (Sub.refl _))))) ?_
    obtain ⟨n1, e1, hfe⟩ := feT_tup js0 js2 x 9 (s % 110 - 3)
    have u1 := feasible46 js0 js2 x 9 (s % 110 - 3) hfj hf2
    have u2 := feasible49 js0 js2 x 9 (s % 110 - 3) hfj hf2
    rw [hfe] at u1 u2
    repeat' first
      | refine WC.on mixed rfl ?_
      | (refine new_block fun b hb => ?_; try simp at hb)
      | refine call_pure (mod25 _ _ (by omega) (by omega)) ?_
      | refine call_pure u1 ?_
      | refine call_pure u2 ?_
      | (refine call_pure (change47 js0 js2 o0 T L hfj hf2 (by omega)) ?_)
      | (refine call_pure (change48 js0 js2 o0 T L hfj hf2 (by omega)) ?_)
      | refine call_pure awake21 ?_
      | simp -dsimp [f3, f9, f11, f12, f13, f14, f15, f73, f74, f75]
      | simp -dsimp (disch := omega) only [w64]
      | refine And.intro (by omega) ?_
      | simp -dsimp [*]
      | refine And.intro ?_ ?_
      | intro h
      | done
    all_goals exact ⟨_, Sub.nil _⟩
  · have hfj := hf1
    refine WC.on mixed rfl ?_
    repeat' first
      | (refine new_block fun b hb => ?_; try simp at hb)
      | simp -dsimp [f3, f9, f10, f11, f12, f13, f14, f15, f73, f74, f75, hw]
      | simp -dsimp (disch := omega) only [w64]
      | refine And.intro (by omega) ?_
      | simp -dsimp [*]
      | refine And.intro ?_ ?_
      | intro h
      | done
    refine WC.on mixed rfl ?_
    repeat' first
      | (refine new_block fun b hb => ?_; try simp at hb)
      | simp -dsimp [f3, f9, f10, f11, f12, f13, f14, f15, f73, f74, f75, hw]
      | simp -dsimp (disch := omega) only [w64]
      | refine And.intro (by omega) ?_
      | simp -dsimp [*]
      | refine And.intro ?_ ?_
      | intro h
      | done
    refine WC.view 10 (y := .ro 7 (js.map Jb.lv)) (τ := [(⟨b1, 6, 6⟩, [x.lv])]) (by simp -dsimp [f10]; exact View.lit rfl (by simp) (Jb.ones _) (Sub.pick [_, _] (Sub.skip _ (Sub.skip _ (Sub.refl _))))) ?_
    obtain ⟨n1, e1, hfe⟩ := feT_tup js js2 x 9 (s % 110 - 3)
    have u1 := feasible46 js js2 x 9 (s % 110 - 3) hfj hf2
    have u2 := feasible49 js js2 x 9 (s % 110 - 3) hfj hf2
    rw [hfe] at u1 u2
    repeat' first
      | refine WC.on mixed rfl ?_
      | (refine new_block fun b hb => ?_; try simp at hb)
      | refine call_pure (mod25 _ _ (by omega) (by omega)) ?_
      | refine call_pure u1 ?_
      | refine call_pure u2 ?_
      | (refine call_pure (change47 js js2 o0 T L hfj hf2 (by omega)) ?_)
      | (refine call_pure (change48 js js2 o0 T L hfj hf2 (by omega)) ?_)
      | refine call_pure awake21 ?_
      | simp -dsimp [f3, f9, f11, f12, f13, f14, f15, f73, f74, f75]
      | simp -dsimp (disch := omega) only [w64]
      | refine And.intro (by omega) ?_
      | simp -dsimp [*]
      | refine And.intro ?_ ?_
      | intro h
      | done
    all_goals exact ⟨_, Sub.nil _⟩
end Go.Proofs.Ytjamehpnclkjdaa
