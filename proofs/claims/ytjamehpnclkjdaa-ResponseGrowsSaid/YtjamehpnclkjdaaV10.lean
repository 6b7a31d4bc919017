/- The law ResponseGrows, whole. It bears no statement of its own. -/
import Derived.Test.YtjamehpnclkjdaaS19
import Derived.Test.YtjamehpnclkjdaaLr
namespace Go.Proofs.Ytjamehpnclkjdaa
open Go Go.Ls
set_option linter.unusedVariables false
set_option linter.unusedSimpArgs false
set_option maxRecDepth 100000
attribute [local irreducible] Box drawF

theorem app_opt {P : Program} {M : Nat → Prop} {σ : Heap} {t : TypeId} {s x : LV} {k : LV → Heap → Prop} {tk : Tk k} {z : LV} {sz by_ : Nat} (ht : slTy P t = some (z, sz, by_)) (xs ys : List LV) {τ : Heap} (hown : Own sz s xs σ τ) (hsrc : Src σ sz x ys) (hM : ∀ B n, s = .msl B 0 n → M B.b)
    (hl : xs.length + ys.length ≤ maxLen) (hb : (xs.length + ys.length) * by_ ≤ 140737488355328) (h0 : xs ++ ys = [] → k (.val (.slice none 0 0)) τ) (h1 : ∀ b room, k (.msl ⟨b, sz, room⟩ 0 (xs.length + ys.length)) ((⟨b, sz, room⟩, xs ++ ys) :: τ)) : apF tk P M σ t s x := by
  refine app_hv ht σ (HV.refl _) xs ys τ hown hsrc (Sub.refl _) (fun B n e => .inl (hM B n e)) hl hb fun v' σ' ho => ?_
  rcases ho with ⟨rfl, h2, rfl⟩ | ⟨⟨b, sz', room⟩, rfl, rfl, rfl⟩
  · exact h0 h2
  · rw [List.length_append]
    exact h1 b room
theorem hv_job {js : List Jb} {k : Nat} (hk : k < js.length) {j' : Jb} {v : LV} {R room : Nat} {σ τ : Heap} (hp : Sub ((⟨R, 7, room⟩, (js.map Jb.lv).set k (.agg [I j'.pe, I j'.de, I j'.ji, I j'.pr, I j'.co, v, I j'.ev])) :: τ) σ)
    (hv : View σ ((⟨R, 7, room⟩, (js.map Jb.lv).set k (.agg [I j'.pe, I j'.de, I j'.ji, I j'.pr, I j'.co, v, I j'.ev])) :: τ) v (.ro 2 (j'.se.map Hd.lv))) : HV σ ((⟨R, 7, room⟩, (js.set k j').map Jb.lv) :: τ) :=
  HV.elem (k := k) (cs := [I j'.pe, I j'.de, I j'.ji, I j'.pr, I j'.co, v, I j'.ev]) (ds := j'.lv.cells) hp (by simp) (Jb.ones _) (fun i hi => by rw [List.map_set, List.getElem?_set_ne (Ne.symm hi), List.getElem?_set_ne (Ne.symm hi)]) (by rw [List.getElem?_set_self (by simpa using hk)]) (by rw [List.map_set, List.getElem?_set_self (by simpa using hk)]; rfl)
    ⟨View.of_sub hp, View.of_sub hp, View.of_sub hp, View.of_sub hp, View.of_sub hp, hv, View.of_sub hp, trivial⟩

theorem fit_set' {l : List Jb} (h : Fit l) {i : Nat} {j : Jb} (hj : j.se.length ≤ 1152921504606846976) : Fit (l.set i j) := by
  refine ⟨by rw [List.length_set]; exact h.1, fun e he => ?_⟩
  rcases List.mem_or_eq_of_mem_set he with he | rfl
  · exact h.2 e he
  · exact hj
theorem valid_set {l : List Jb} (h : validL l) {i : Nat} {j : Jb} (hj : validJ j) : validL (l.set i j) := by
  refine ⟨by rw [List.length_set]; exact h.1, fun e he => ?_⟩
  rcases List.mem_or_eq_of_mem_set he with he | rfl
  · exact h.2 e he
  · exact hj
def wev (j : Jb) (c : Int) : Jb := ⟨j.pe, j.de, j.ji, j.pr, j.co, j.se, c⟩
def wse (j : Jb) (c : List Hd) : Jb := ⟨j.pe, j.de, j.ji, j.pr, j.co, c, j.ev⟩
def wpa (x : Rt) (c : Int) : Rt := ⟨x.di, x.de, x.pe, c, x.wi, x.er⟩
theorem setN_co {l : List Jb} {k : Nat} (hk : k < l.length) (hj : JobOk l[k]) {d : Int} (h0 : 0 ≤ d) (h1 : d < 5) : LeJ l[k] (wcj l[k] (l[k].co + d)) ∧ validJ (wcj l[k] (l[k].co + d)) := by
  obtain ⟨⟨a1, a2, a3, a4, a5, a6⟩, a7⟩ := hj.valid
  obtain ⟨c1, c2, c3, c4, c5, c6, c7, c8⟩ := hj
  exact ⟨⟨⟨rfl, rfl, rfl, rfl⟩, by simp only [wcj]; omega, Int.le_refl _, fun _ h => h⟩, ⟨a1, a2, a3, a4, by simp only [wcj]; omega, a6⟩, a7⟩
theorem setN_ev {l : List Jb} {k : Nat} (hk : k < l.length) (hj : JobOk l[k]) {d : Int} (h0 : 0 ≤ d) (h1 : d < 5) : LeJ l[k] (wev l[k] (l[k].ev + d)) ∧ validJ (wev l[k] (l[k].ev + d)) := by
  obtain ⟨⟨a1, a2, a3, a4, a5, a6⟩, a7⟩ := hj.valid
  obtain ⟨c1, c2, c3, c4, c5, c6, c7, c8⟩ := hj
  exact ⟨⟨⟨rfl, rfl, rfl, rfl⟩, Int.le_refl _, by simp only [wev]; omega, fun _ h => h⟩, ⟨a1, a2, a3, a4, a5, by simp only [wev]; omega⟩, a7⟩
theorem setN_se {l : List Jb} {k : Nat} (hk : k < l.length) (hj : JobOk l[k]) {d : Int} (h0 : 0 ≤ d) (h1 : d < 20) : LeJ l[k] (wse l[k] (l[k].se ++ [⟨0, d⟩])) ∧ validJ (wse l[k] (l[k].se ++ [⟨0, d⟩])) := by
  obtain ⟨⟨a1, a2, a3, a4, a5, a6⟩, a7⟩ := hj.valid
  refine ⟨⟨⟨rfl, rfl, rfl, rfl⟩, Int.le_refl _, Int.le_refl _, fun _ h => List.mem_append_left _ h⟩, ⟨a1, a2, a3, a4, a5, a6⟩, fun h hh => ?_⟩
  rcases List.mem_append.1 hh with hh | hh
  · exact a7 h hh
  · simp at hh
    subst hh
    exact ⟨by simp only; omega, by simp only; omega⟩
theorem rates_up {x : Rt} (hx : RateOk x) : LeR x (wpa x (min x.pe (x.pa + 1))) ∧ validR (wpa x (min x.pe (x.pa + 1))) := by
  have hv := hx.valid
  obtain ⟨h1, h2, h3, h4, h5, h6, h7⟩ := hv
  refine ⟨⟨rfl, rfl, rfl, by simp only [wpa]; omega, rfl, rfl⟩, h1, h2, h3, h4, ?_, h6, h7⟩
  simp only [wpa]
  omega
/-- A job alone. -/
def one (j : Jb) : List Jb := [wse j []]
theorem rt_one (j : Jb) (hj : JobOk j) : rt (one j) rA 9 7 0 = if max 1 j.co + j.ji ≤ j.de then some (max 1 j.co) else none := by
  have hd : ∀ t, dem (one j) rA 0 9 7 t = j.co := fun t => by simp [dem, one, wse, coOf, sumA, term, bef, blk, blkA, holds, most, rA]
  have e : rt (one j) rA 9 7 0 = resp (dem (one j) rA 0 9 7) j.ji j.de := rfl
  rw [e]
  split
  · rw [resp_some]
    refine ⟨by omega, by omega, ?_, fun s h1 h2 => ?_⟩ <;> rw [hd] <;> omega
  · rw [resp_none]
    intro s h1 h2
    rw [hd]
    omega
theorem one_ok (j : Jb) (hj : JobOk j) : okC (one j) rA 9 7 := by
  obtain ⟨⟨a1, a2, a3, a4, a5, a6⟩, a7⟩ := hj.valid
  refine ⟨⟨by simp [one], fun e he => ?_⟩, by decide, by omega, by omega⟩
  simp only [one, List.mem_singleton] at he
  subst he
  exact ⟨⟨a1, a2, a3, a4, a5, a6⟩, fun h hh => by simp [wse] at hh⟩
theorem one_fit (j : Jb) : Fit (one j) := ⟨by simp [one], by simp [one, wse]⟩

set_option maxHeartbeats 8000000 in
theorem law10 (ls : List Int) (hl : ls.length ≤ 1152921504606846976) : LCalls Try.prog 10 [.ro 1 (ls.map I)] [] fun r σ => r = Bo true := by
  refine lcalls_go (rts := [.tmp 2]) Try.func10 rfl rfl rfl rfl rfl ?_
  refine WC.on mixed rfl ?_
  repeat' first
    | (refine new_block fun b hb => ?_; try simp at hb)
    | (refine call_new (new16 _) ?_; rintro _ _ ⟨bd, rfl, rfl⟩)
    | (refine next_a (n := 4) hl (by first | assumption | exact Nat.zero_le _) (by omega) (by omega) trivial fun a v ha h0 h1 => ?_)
    | (refine call_split [(dk _, deck ls _)] [] (List.Perm.refl _) (fun _ _ => trivial) (jobsC ls _ _ _ (by assumption) hl (by omega) (by omega)) ?_; rintro _ _ ⟨a2, js, c, room, ha2, hjs, rfl, rfl⟩)
    | (refine call_split [(dk _, deck ls _)] [_] (List.Perm.refl _) (fun _ _ => trivial) (rates23 ls _ _ (by assumption) hl) ?_; rintro _ _ ⟨x, a3, ha3, rfl, hxo, rfl⟩)
    | simp -dsimp []
    | simp -dsimp (disch := omega) only [w64]
    | refine And.intro (by omega) ?_
    | simp -dsimp [*]
    | refine And.intro ?_ ?_
    | intro h
    | done
  refine WC.on mixed rfl ?_
  repeat' first
    | (refine new_block fun b hb => ?_; try simp at hb)
    | (refine call_new (new16 _) ?_; rintro _ _ ⟨bd, rfl, rfl⟩)
    | (refine next_a (n := 4) hl (by first | assumption | exact Nat.zero_le _) (by omega) (by omega) trivial fun a v ha h0 h1 => ?_)
    | (refine call_split [(dk _, deck ls _)] [] (List.Perm.refl _) (fun _ _ => trivial) (jobsC ls _ _ _ (by assumption) hl (by omega) (by omega)) ?_; rintro _ _ ⟨a2, js, c, room, ha2, hjs, rfl, rfl⟩)
    | (refine call_split [(dk _, deck ls _)] [_] (List.Perm.refl _) (fun _ _ => trivial) (rates23 ls _ _ (by assumption) hl) ?_; rintro _ _ ⟨x, a3, ha3, rfl, hxo, rfl⟩)
    | simp -dsimp []
    | simp -dsimp (disch := omega) only [w64]
    | refine And.intro (by omega) ?_
    | simp -dsimp [*]
    | refine And.intro ?_ ?_
    | intro h
    | done
  refine WC.on mixed rfl ?_
  repeat' first
    | (refine new_block fun b hb => ?_; try simp at hb)
    | (refine call_new (new16 _) ?_; rintro _ _ ⟨bd, rfl, rfl⟩)
    | (refine next_a (n := 4) hl (by first | assumption | exact Nat.zero_le _) (by omega) (by omega) trivial fun a v ha h0 h1 => ?_)
    | (refine call_split [(dk _, deck ls _)] [] (List.Perm.refl _) (fun _ _ => trivial) (jobsC ls _ _ _ (by assumption) hl (by omega) (by omega)) ?_; rintro _ _ ⟨a2, js, c, room, ha2, hjs, rfl, rfl⟩)
    | (refine call_split [(dk _, deck ls _)] [_] (List.Perm.refl _) (fun _ _ => trivial) (rates23 ls _ _ (by assumption) hl) ?_; rintro _ _ ⟨x, a3, ha3, rfl, hxo, rfl⟩)
    | simp -dsimp []
    | simp -dsimp (disch := omega) only [w64]
    | refine And.intro (by omega) ?_
    | simp -dsimp [*]
    | refine And.intro ?_ ?_
    | intro h
    | done
  obtain ⟨b1, hb1⟩ : ∃ b1, b1 = b := ⟨b, rfl⟩
  subst hb1
  have hjl := hjs.1
  have hn : (1 + v).toNat ≤ 4 := by omega
  have hn1 : 1 ≤ (1 + v).toNat := by omega
  have hf := hjs.fit (by omega)
  have hl0 := hf.1
  have hc := okC_of (ins := 9) (miss := 7) hjs (by omega) hxo (by omega) (by omega)
  obtain ⟨hv, hvx, hin, hm⟩ := id hc
  have h00 : 0 < js.length := by omega
  refine WC.view 4 (y := .ro 7 (js.map Jb.lv)) (τ := [(dk bd, deck ls a3), (⟨b1, 6, 6⟩, [x.lv])]) (by simp -dsimp; exact View.lit rfl (by rw [List.length_map]; exact hjl.symm) (Jb.ones js) (Sub.pick [_, _] (Sub.swap _ _ (Sub.refl _)))) ?_
  refine WC.on mixed rfl ?_
  repeat' first
    | (refine new_block fun b hb => ?_; try simp at hb)
    | (refine app_cons ty_sl25 _ (HV.refl _) [] (js.map Jb.lv) [(dk bd, deck ls a3), (⟨b1, 6, 6⟩, [x.lv])] (Own.none _ _) (.inl rfl) (Sub.refl _) (fun _ _ e => by cases e) (by simp [maxLen]; omega) (by simp; omega) (by intro h; have h := congrArg List.length h; simp at h; subst h; simp at h00) fun R room => ?_)
    | simp -dsimp []
    | simp -dsimp (disch := omega) only [w64]
    | refine And.intro (by omega) ?_
    | simp -dsimp [*]
    | refine And.intro ?_ ?_
    | intro h
    | done
  refine WC.on mixed rfl ?_
  repeat' first
    | (refine new_block fun b hb => ?_; try simp at hb)
    | simp -dsimp []
    | simp -dsimp (disch := omega) only [w64]
    | refine And.intro (by omega) ?_
    | simp -dsimp [*]
    | refine And.intro ?_ ?_
    | intro h
    | done
  obtain ⟨b7, hb7⟩ : ∃ b7, b7 = b := ⟨b, rfl⟩
  subst hb7
  refine WC.on mixed rfl ?_
  repeat' first
    | (refine new_block fun b hb => ?_; try simp at hb)
    | (refine next_c (n := max (1 + v) 0) hl (by assumption) (by omega) (by omega) trivial fun a w ha h0 h1 => ?_; obtain ⟨k, rfl⟩ := Int.eq_ofNat_of_zero_le h0)
    | simp -dsimp [hjl]
    | simp -dsimp (disch := omega) only [w64]
    | refine And.intro (by omega) ?_
    | simp -dsimp [*]
    | refine And.intro ?_ ?_
    | intro h
    | done
  have hkl : k < js.length := by omega
  have hjk := hjs.2 _ (List.getElem_mem hkl)
  have hva := hv.get hkl
  have hco := hjk.co
  have hev := hjk.ev
  have hse := hjk.len
  have hpa : 0 ≤ x.pa ∧ x.pa < 4 := by have := hxo.pe; omega
  refine WC.cutv (fun fr σ => ∃ (js' : List Jb) (x' : Rt), LeL js js' ∧ validL js' ∧ Fit js' ∧ LeR x x' ∧ validR x' ∧ σ = [(⟨R, 7, room⟩, js'.map Jb.lv), (⟨b7, 6, 6⟩, [x'.lv]), (⟨b1, 6, 6⟩, [x.lv])] ∧ fr 4 = .ro 7 (js.map Jb.lv) ∧ fr 5 = .ref ⟨b1, 6, 6⟩ 0 0 ∧ fr 6 = .msl ⟨R, 7, room⟩ 0 js.length ∧ fr 7 = .ref ⟨b7, 6, 6⟩ 0 0) ?_ ?_
  · refine WC.on mixed rfl ?_
    repeat' first
      | (refine new_block fun b hb => ?_; try simp at hb)
      | refine next_a (n := 4) hl (by assumption) (by omega) (by omega) trivial fun a w ha h0 h1 => ?_
      | simp -dsimp [hkl]
      | simp -dsimp (disch := omega) only [w64]
      | refine And.intro (by omega) ?_
      | simp -dsimp [*]
      | refine And.intro ?_ ?_
      | intro h
      | done
    have hw : w = 0 ∨ w = 1 ∨ w = 2 ∨ w = 3 := by omega
    refine WC.nodup fun hnd => ?_
    simp at hnd
    rcases hw with rfl | rfl | rfl | rfl
    · repeat' first
        | refine WC.on mixed rfl ?_
        | (refine new_block fun b hb => ?_; try simp at hb)
        | refine draw_plan 8 [bd] [(0, 0), (1, 0), (2, 0), (3, 0), (5, 0), (4, 1), (6, 2), (7, 0), (8, 0), (9, 0), (10, 3)] (by kernel_rfl) rfl ?_
        | refine plan_nil ?_
        | refine plan_none rfl (by simp) ?_
        | refine plan_some rfl rfl (by simp) ?_
        | refine next_a (n := 5) hl (by assumption) (by omega) (by omega) (by simp) fun a d ha h0 h1 => ?_
        | simp -dsimp [hkl]
        | simp -dsimp (disch := omega) only [w64]
        | refine And.intro (by omega) ?_
        | simp -dsimp [*]
        | refine And.intro ?_ ?_
        | intro h
        | done
      all_goals
        obtain ⟨g1, g2⟩ := setN_co hkl hjk (d := d) (by omega) (by omega)
        exact Midv.go [_, _, _] (Sub.pick [_, _] (Sub.skip _ (Sub.refl _))) ⟨js.set k (wcj js[k] (js[k].co + d)), x, LeL.set hkl g1, valid_set hv g2, fit_set' hf (hf.2 js[k] (List.getElem_mem hkl)), LeR.refl x, hvx, by rw [List.map_set]; rfl, by simp -dsimp [hjl], by simp -dsimp, by simp -dsimp [hjl], by simp -dsimp⟩
    · repeat' first
        | refine WC.on mixed rfl ?_
        | (refine new_block fun b hb => ?_; try simp at hb)
        | refine draw_plan 10 [bd] [(0, 0), (1, 0), (2, 0), (3, 0), (5, 0), (4, 1), (6, 2), (7, 0), (8, 0), (9, 0), (10, 3)] (by kernel_rfl) rfl ?_
        | refine plan_nil ?_
        | refine plan_none rfl (by simp) ?_
        | refine plan_some rfl rfl (by simp) ?_
        | refine next_a (n := 5) hl (by assumption) (by omega) (by omega) (by simp) fun a d ha h0 h1 => ?_
        | simp -dsimp [hkl]
        | simp -dsimp (disch := omega) only [w64]
        | refine And.intro (by omega) ?_
        | simp -dsimp [*]
        | refine And.intro ?_ ?_
        | intro h
        | done
      all_goals
        obtain ⟨g1, g2⟩ := setN_ev hkl hjk (d := d) (by omega) (by omega)
        exact Midv.go [_, _, _] (Sub.pick [_, _] (Sub.skip _ (Sub.refl _))) ⟨js.set k (wev js[k] (js[k].ev + d)), x, LeL.set hkl g1, valid_set hv g2, fit_set' hf (hf.2 js[k] (List.getElem_mem hkl)), LeR.refl x, hvx, by rw [List.map_set]; rfl, by simp -dsimp [hjl], by simp -dsimp, by simp -dsimp [hjl], by simp -dsimp⟩
    · repeat' first
        | refine WC.on mixed rfl ?_
        | (refine new_block fun b hb => ?_; try simp at hb)
        | refine app_opt ty_sl61 [] (js[k].se.map Hd.lv) (Own.none _ _) (.inl rfl) (fun _ _ e => by cases e) (by simp [maxLen]; omega) (by simp; omega) (fun hnil => ?_) fun c3 room3 => ?_
        | refine next_a (n := 20) hl (by assumption) (by omega) (by omega) trivial fun a d ha h0 h1 => ?_
        | refine next_b (n := 20) hl (by assumption) (by omega) (by omega) trivial fun a d ha h0 h1 => ?_
        | (refine app_litc [] _ ty_sl61 rfl rfl (Own.none _ _) (Sub.refl _) (fun _ _ e => by cases e) (by simp [maxLen]) (by simp) (by simp) fun b2 room2 => ?_)
        | (refine app_litc (js[k].se.map Hd.lv) _ ty_sl61 rfl rfl ((Own.blk (by simp)).perm (List.perm_middle (l₁ := [_]))) (Sub.refl _) (fun _ _ _ => .inl trivial) (by simp [maxLen]; omega) (by simp; omega) (by simp) fun b2 room2 => ?_)
        | simp -dsimp [hkl]
        | simp -dsimp (disch := omega) only [w64]
        | refine And.intro (by omega) ?_
        | simp -dsimp [*]
        | refine And.intro ?_ ?_
        | intro h
        | done
      · obtain ⟨g1, g2⟩ := setN_se hkl hjk (d := d) (by omega) (by omega)
        have e0 : js[k].se = [] := by simpa using hnil
        have hS : (wse js[k] (js[k].se ++ [⟨0, d⟩])).se.map Hd.lv = [.agg [I 0, I d]] := by simp [wse, e0]
        refine Midv.hv [_, _, _] (hv_job (R := R) (room := room) (τ := [(⟨b7, 6, 6⟩, [x.lv]), (⟨b1, 6, 6⟩, [x.lv])]) hkl (j' := wse js[k] (js[k].se ++ [⟨0, d⟩])) (v := .msl ⟨b2, 2, room2⟩ 0 (0 + 1)) (Sub.pick [_, _, _] (Sub.skip _ (Sub.skip _ (Sub.refl _)))) (View.lit rfl (by simp [wse, e0]) (Hd.ones _) (by rw [hS]; exact Sub.cons _ (Sub.pick [_, _] (Sub.skip _ (Sub.refl _)))))) ⟨js.set k (wse js[k] (js[k].se ++ [⟨0, d⟩])), x, LeL.set hkl g1, valid_set hv g2, fit_set' hf (by simp [wse]; omega), LeR.refl x, hvx, rfl, by simp -dsimp [hjl], by simp -dsimp, by simp -dsimp [hjl], by simp -dsimp⟩
      · obtain ⟨g1, g2⟩ := setN_se hkl hjk (d := d) (by omega) (by omega)
        have hS : (wse js[k] (js[k].se ++ [⟨0, d⟩])).se.map Hd.lv = js[k].se.map Hd.lv ++ [.agg [I 0, I d]] := by simp [wse]
        refine Midv.hv [_, _, _] (hv_job (R := R) (room := room) (τ := [(⟨b7, 6, 6⟩, [x.lv]), (⟨b1, 6, 6⟩, [x.lv])]) hkl (j' := wse js[k] (js[k].se ++ [⟨0, d⟩])) (v := .msl ⟨b2, 2, room2⟩ 0 (js[k].se.length + 1)) (Sub.pick [_, _, _] (Sub.skip _ (Sub.skip _ (Sub.refl _)))) (View.lit rfl (by simp [wse]) (Hd.ones _) (by rw [hS]; exact Sub.cons _ (Sub.pick [_, _] (Sub.skip _ (Sub.refl _)))))) ⟨js.set k (wse js[k] (js[k].se ++ [⟨0, d⟩])), x, LeL.set hkl g1, valid_set hv g2, fit_set' hf (by simp [wse]; omega), LeR.refl x, hvx, rfl, by simp -dsimp [hjl], by simp -dsimp, by simp -dsimp [hjl], by simp -dsimp⟩
    · repeat' first
        | refine WC.on mixed rfl ?_
        | (refine new_block fun b hb => ?_; try simp at hb)
        | simp -dsimp [hkl]
        | simp -dsimp (disch := omega) only [w64]
        | refine And.intro (by omega) ?_
        | simp -dsimp [*]
        | refine And.intro ?_ ?_
        | intro h
        | done
      all_goals exact Midv.go [_, _, _] (Sub.pick [_, _] (Sub.skip _ (Sub.refl _))) ⟨js, wpa x (min x.pe (x.pa + 1)), LeL.refl js, hv, hf, (rates_up hxo).1, (rates_up hxo).2, rfl, by simp -dsimp [hjl], by simp -dsimp, by simp -dsimp [hjl], by simp -dsimp⟩
  rintro fr σ ⟨js', x', hle, hv', hf', hlx, hvx', rfl, k4, k5, k6, k7⟩
  have hl' := hle.1
  have hbn : ¬ b1 = b7 := by omega
  have hbm : ¬ b7 = b1 := by omega
  have hc' : okC js' x' 9 7 := ⟨hv', hvx', by omega, by omega⟩
  refine WC.view 6 (y := .ro 7 (js'.map Jb.lv)) (τ := [(⟨b7, 6, 6⟩, [x'.lv]), (⟨b1, 6, 6⟩, [x.lv])]) (by rw [k6]; exact View.lit rfl (by rw [List.length_map, hl']) (Jb.ones js') (Sub.refl _)) ?_
  clear k6
  repeat' first
    | refine WC.on mixed rfl ?_
    | (refine new_block fun b hb => ?_; try simp at hb)
    | simp -dsimp [k4, k5, k7]
    | simp -dsimp (disch := omega) only [w64]
    | refine And.intro (by omega) ?_
    | simp -dsimp [*]
    | refine And.intro ?_ ?_
    | intro h
    | done
  refine WC.loop (fun m fr σ => ∃ i : Nat, i ≤ js.length ∧ m = js.length - i ∧ σ = [(⟨b7, 6, 6⟩, [x'.lv]), (⟨b1, 6, 6⟩, [x.lv])] ∧ fr 4 = .ro 7 (js.map Jb.lv) ∧ fr 5 = .ref ⟨b1, 6, 6⟩ 0 0 ∧ fr 6 = .ro 7 (js'.map Jb.lv) ∧ fr 7 = .ref ⟨b7, 6, 6⟩ 0 0 ∧ fr 87 = I js.length ∧ fr 88 = I i) js.length ⟨0, by omega, by omega, rfl,  by (simp -dsimp [k4, k5, k7])⟩ ?_
  rintro m fr σ ⟨i, hi, rfl, rfl, k4, k5, k6, k7, k87, k88⟩
  refine WC.on mixed rfl ?_
  simp -dsimp [k4, k5, k6, k7, k87, k88]
  refine WC.on mixed rfl ?_
  simp -dsimp
  have hj0 := hjs.2 _ (List.getElem_mem h00)
  refine ⟨fun hlt => ?_, fun hge => ?_⟩
  · have hlt' : i < js'.length := by omega
    have r1 := rtT_ok (i := i) hc hlt
    have r2 := rtT_ok (i := i) hc' hlt'
    have u1 := time40 js x i 9 7 hf
    have u2 := time40 js' x' i 9 7 hf'
    cases hr2 : rt js' x' 9 7 i with
    | none =>
      obtain ⟨a1, e1, ht1⟩ := rtT_tup js x 9 7 i
      rw [ht1] at u1
      rw [r2, hr2] at u2
      repeat' first
        | refine WC.on mixed rfl ?_
        | (refine new_block fun b hb => ?_; try simp at hb)
        | refine call_pure u1 ?_
        | refine call_pure u2 ?_
        | simp -dsimp [k4, k5, k6, k7, k87, k88, hlt, tmT, hbn, hbm]
        | simp -dsimp (disch := omega) only [w64]
        | refine And.intro (by omega) ?_
        | refine And.intro ?_ ?_
        | intro h
        | done
      all_goals exact Round.go (js.length - (i + 1)) _ (by omega) (Sub.refl _) ⟨i + 1, by omega, rfl, rfl, by simp -dsimp [k4, k5, k6, k7, k87, k88]⟩
    | some t2 =>
      obtain ⟨t1, hr1, hts⟩ := rt_up hle hv hlx hr2
      rw [r1, hr1] at u1
      rw [r2, hr2] at u2
      repeat' first
        | refine WC.on mixed rfl ?_
        | (refine new_block fun b hb => ?_; try simp at hb)
        | refine call_pure u1 ?_
        | refine call_pure u2 ?_
        | simp -dsimp [k4, k5, k6, k7, k87, k88, hlt, tmT, hbn, hbm]
        | simp -dsimp (disch := omega) only [w64]
        | refine And.intro (by omega) ?_
        | refine And.intro ?_ ?_
        | intro h
        | done
      all_goals first
        | (exfalso; omega)
        | exact Round.go (js.length - (i + 1)) _ (by omega) (Sub.refl _) ⟨i + 1, by omega, rfl, rfl, by simp -dsimp [k4, k5, k6, k7, k87, k88]⟩
  · have hz : js[0]? = some js[0] := List.getElem?_eq_getElem h00
    have h1f := one_fit js[0]
    have h1c := one_ok js[0] hj0
    have h1r := rtT_ok (i := 0) h1c (by simp [one])
    have u1 := time40 (one js[0]) rA 0 9 7 h1f
    rw [show ((0 : Nat) : Int) = 0 from rfl] at h1r
    rw [h1r, rt_one js[0] hj0] at u1
    obtain ⟨c1, c2, c3, c4, c5, c6, c7, c8⟩ := id hj0
    refine WC.on mixed rfl ?_
    repeat' first
      | (refine new_block fun b hb => ?_; try simp at hb)
      | simp -dsimp [k4, k5, k6, k7, k87, k88]
      | simp -dsimp (disch := omega) only [w64]
      | refine And.intro (by omega) ?_
      | simp -dsimp [*]
      | refine And.intro ?_ ?_
      | intro h
      | done
    refine WC.on mixed rfl ?_
    repeat' first
      | (refine new_block fun b hb => ?_; try simp at hb)
      | simp -dsimp [k4, k5, k6, k7, k87, k88, h00, hz]
      | simp -dsimp (disch := omega) only [w64]
      | refine And.intro (by omega) ?_
      | simp -dsimp [*]
      | refine And.intro ?_ ?_
      | intro h
      | done
    refine WC.on mixed rfl ?_
    repeat' first
      | (refine new_block fun b hb => ?_; try simp at hb)
      | simp -dsimp [k4, k5, k6, k7, k87, k88, h00, hz]
      | simp -dsimp (disch := omega) only [w64]
      | refine And.intro (by omega) ?_
      | simp -dsimp [*]
      | refine And.intro ?_ ?_
      | intro h
      | done
    refine WC.view 14 (y := .ro 7 ((one js[0]).map Jb.lv)) (τ := []) (by simp -dsimp; exact view_jobs0 (js := one js[0]) rfl rfl (by simp [one, wse]) (Sub.cons _ (Sub.nil _))) ?_
    by_cases hfit : max (1 : Int) js[0].co + js[0].ji ≤ js[0].de
    · rw [if_pos hfit] at u1
      repeat' first
        | refine WC.on mixed rfl ?_
        | (refine new_block fun b hb => ?_; try simp at hb)
        | refine draw_plan 27 [] [(0, 0), (1, 0), (2, 0), (3, 0), (6, 0), (7, 0), (8, 0), (4, 1), (5, 0), (9, 1), (10, 0)] (by kernel_rfl) rfl ?_
        | refine plan_nil ?_
        | refine plan_none rfl (by simp) ?_
        | refine plan_some rfl rfl (by simp) ?_
        | refine call_pure u1 ?_
        | refine call_pure awake34 ?_
        | simp -dsimp [tmT, one, wse]
        | simp -dsimp (disch := omega) only [w64]
        | refine And.intro (by omega) ?_
        | refine And.intro ?_ ?_
        | intro h
        | done
      all_goals first
        | (exfalso; omega)
        | exact ⟨_, Sub.nil _⟩
    · rw [if_neg hfit] at u1
      repeat' first
        | refine WC.on mixed rfl ?_
        | (refine new_block fun b hb => ?_; try simp at hb)
        | refine draw_plan 27 [] [(0, 0), (1, 0), (2, 0), (3, 0), (6, 0), (7, 0), (8, 0), (4, 1), (5, 0), (9, 1), (10, 0)] (by kernel_rfl) rfl ?_
        | refine plan_nil ?_
        | refine plan_none rfl (by simp) ?_
        | refine plan_some rfl rfl (by simp) ?_
        | refine call_pure u1 ?_
        | refine call_pure awake34 ?_
        | simp -dsimp [tmT, one, wse]
        | simp -dsimp (disch := omega) only [w64]
        | refine And.intro (by omega) ?_
        | refine And.intro ?_ ?_
        | intro h
        | done
      all_goals first
        | (exfalso; omega)
        | exact ⟨_, Sub.nil _⟩
end Go.Proofs.Ytjamehpnclkjdaa
