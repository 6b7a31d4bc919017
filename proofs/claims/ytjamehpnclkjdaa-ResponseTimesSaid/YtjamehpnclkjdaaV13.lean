/- The law ResponseTimes, whole. It bears no statement of its own. -/
import Derived.Test.YtjamehpnclkjdaaS19
namespace Go.Proofs.Ytjamehpnclkjdaa
open Go Go.Ls
set_option linter.unusedVariables false
set_option linter.unusedSimpArgs false
set_option maxRecDepth 100000
attribute [local irreducible] Box drawF

def wpe (j : Jb) (c : Int) : Jb := ⟨c, j.de, j.ji, j.pr, j.co, j.se, j.ev⟩
theorem fit_set {l : List Jb} (h : Fit l) {i : Nat} {j : Jb} (hj : j.se.length ≤ 1152921504606846976) : Fit (l.set i j) := by
  refine ⟨by rw [List.length_set]; exact h.1, fun e he => ?_⟩
  rcases List.mem_or_eq_of_mem_set he with he | rfl
  · exact h.2 e he
  · exact hj
set_option maxHeartbeats 8000000 in
theorem law13 (ls : List Int) (p q s t u : Int) (hl : ls.length ≤ 1152921504606846976) : LCalls Try.prog 13 [.ro 1 (ls.map I), I p, I q, I s, I t, I u] [] fun r σ => r = Bo true := by
  refine lcalls_go (rts := [.tmp 12]) Try.func13 rfl rfl rfl rfl rfl ?_
  refine WC.on mixed rfl ?_
  repeat' first
    | (refine new_block fun b hb => ?_; try simp at hb)
    | (refine call_new (new16 _) ?_; rintro _ _ ⟨b, rfl, rfl⟩)
    | (refine next_a (n := 4) hl (by first | assumption | exact Nat.zero_le _) (by omega) (by omega) trivial fun a v ha h0 h1 => ?_)
    | (refine call_split [(dk _, deck ls _)] [] (List.Perm.refl _) (fun _ _ => trivial) (jobsC ls _ _ _ (by assumption) hl (by omega) (by omega)) ?_; rintro _ _ ⟨a2, js, c, room, ha2, hjs, rfl, rfl⟩)
    | (refine call_split [(dk _, deck ls _)] [_] (List.Perm.refl _) (fun _ _ => trivial) (rates23 ls _ _ (by assumption) hl) ?_; rintro _ _ ⟨x, a3, ha3, rfl, hxo, rfl⟩)
    | simp -dsimp []
    | simp -dsimp (disch := omega) only [w64]
    | refine And.intro (by omega) ?_
    | simp -dsimp [*]
    | refine And.intro ?_ ?_
    | intro h
    | done
  refine WC.on mixed rfl ?_
  repeat' first
    | (refine new_block fun b hb => ?_; try simp at hb)
    | (refine call_new (new16 _) ?_; rintro _ _ ⟨b, rfl, rfl⟩)
    | (refine next_a (n := 4) hl (by first | assumption | exact Nat.zero_le _) (by omega) (by omega) trivial fun a v ha h0 h1 => ?_)
    | (refine call_split [(dk _, deck ls _)] [] (List.Perm.refl _) (fun _ _ => trivial) (jobsC ls _ _ _ (by assumption) hl (by omega) (by omega)) ?_; rintro _ _ ⟨a2, js, c, room, ha2, hjs, rfl, rfl⟩)
    | (refine call_split [(dk _, deck ls _)] [_] (List.Perm.refl _) (fun _ _ => trivial) (rates23 ls _ _ (by assumption) hl) ?_; rintro _ _ ⟨x, a3, ha3, rfl, hxo, rfl⟩)
    | simp -dsimp []
    | simp -dsimp (disch := omega) only [w64]
    | refine And.intro (by omega) ?_
    | simp -dsimp [*]
    | refine And.intro ?_ ?_
    | intro h
    | done
  refine WC.on mixed rfl ?_
  repeat' first
    | (refine new_block fun b hb => ?_; try simp at hb)
    | (refine call_new (new16 _) ?_; rintro _ _ ⟨b, rfl, rfl⟩)
    | (refine next_a (n := 4) hl (by first | assumption | exact Nat.zero_le _) (by omega) (by omega) trivial fun a v ha h0 h1 => ?_)
    | (refine call_split [(dk _, deck ls _)] [] (List.Perm.refl _) (fun _ _ => trivial) (jobsC ls _ _ _ (by assumption) hl (by omega) (by omega)) ?_; rintro _ _ ⟨a2, js, c, room, ha2, hjs, rfl, rfl⟩)
    | (refine call_split [(dk _, deck ls _)] [_] (List.Perm.refl _) (fun _ _ => trivial) (rates23 ls _ _ (by assumption) hl) ?_; rintro _ _ ⟨x, a3, ha3, rfl, hxo, rfl⟩)
    | simp -dsimp []
    | simp -dsimp (disch := omega) only [w64]
    | refine And.intro (by omega) ?_
    | simp -dsimp [*]
    | refine And.intro ?_ ?_
    | intro h
    | done
  obtain ⟨b1, hb1⟩ : ∃ b1, b1 = b := ⟨b, rfl⟩
  subst hb1
  have hjl := hjs.1
  have hn : (1 + v).toNat ≤ 4 := by omega
  have hn1 : 1 ≤ (1 + v).toNat := by omega
  have hf := hjs.fit (by omega)
  have hl0 := hf.1
  refine WC.on mixed rfl ?_
  repeat' first
    | (refine new_block fun b hb => ?_; try simp at hb)
    | (refine next_b (n := 30) hl (by first | assumption | exact Nat.zero_le _) (by omega) (by omega) trivial fun a v ha h0 h1 => ?_)
    | (refine next_a (n := 20) hl (by first | assumption | exact Nat.zero_le _) (by omega) (by omega) trivial fun a v ha h0 h1 => ?_)
    | simp -dsimp []
    | simp -dsimp (disch := omega) only [w64]
    | refine And.intro (by omega) ?_
    | simp -dsimp [*]
    | refine And.intro ?_ ?_
    | intro h
    | done
  have h00 : 0 < js.length := by omega
  have hz : js[0]? = some js[0] := List.getElem?_eq_getElem h00
  have hfs := fit_set hf (i := 0) (j := wpe js[0] 0) (hf.2 js[0] (List.getElem_mem h00))
  refine WC.cut (fun fr σ => ∃ (js' : List Jb) (x' : Rt) (n m : Int), js'.length = js.length ∧ Fit js' ∧ σ = [(⟨c, 7, room⟩, js'.map Jb.lv), (⟨b1, 6, 6⟩, [x'.lv])] ∧ fr 0 = .ro 1 (ls.map I) ∧ fr 1 = I p ∧ fr 4 = I t ∧ fr 14 = .msl ⟨c, 7, room⟩ 0 js.length ∧ fr 15 = .ref ⟨b1, 6, 6⟩ 0 0 ∧ fr 16 = I n ∧ fr 17 = I m) ?_ ?_
  · repeat' first
      | refine WC.on mixed rfl ?_
      | (refine new_block fun b hb => ?_; try simp at hb)
      | refine call_pure (mod25 _ _ (by omega) (by omega)) ?_
      | simp -dsimp [h00, hz]
      | simp -dsimp (disch := omega) only [w64]
      | refine And.intro (by omega) ?_
      | simp -dsimp [*]
      | refine And.intro ?_ ?_
      | intro h
      | done
    all_goals first
      | exact Mid.go [_, _] (Sub.pick [_, _] (Sub.skip _ (Sub.refl _))) ⟨js, x, _, _, rfl, hf, rfl, by simp -dsimp, by simp -dsimp, by simp -dsimp, by simp -dsimp [hjl], by simp -dsimp, rfl, rfl⟩
      | exact Mid.go [_, _] (Sub.pick [_, _] (Sub.skip _ (Sub.refl _))) ⟨js, ⟨x.di, -1, x.pe, x.pa, x.wi, x.er⟩, _, _, rfl, hf, rfl, by simp -dsimp, by simp -dsimp, by simp -dsimp, by simp -dsimp [hjl], by simp -dsimp, rfl, rfl⟩
      | exact Mid.go [_, _] (Sub.pick [_, _] (Sub.skip _ (Sub.refl _))) ⟨js.set 0 (wpe js[0] 0), x, _, _, by simp, hfs, by rw [List.map_set]; rfl, by simp -dsimp, by simp -dsimp, by simp -dsimp, by simp -dsimp [hjl], by simp -dsimp, rfl, rfl⟩
  rintro fr σ ⟨js', x', n, m, hl', hf', rfl, k0, k1, k4, k14, k15, k16, k17⟩
  refine WC.view 14 (y := .ro 7 (js'.map Jb.lv)) (τ := [(⟨b1, 6, 6⟩, [x'.lv])]) (by rw [k14]; exact View.lit rfl (by rw [List.length_map, hl']) (Jb.ones js') (Sub.refl _)) ?_
  repeat' first
    | refine WC.on mixed rfl ?_
    | (refine new_block fun b hb => ?_; try simp at hb)
    | simp -dsimp [k0, k1, k4, k15, k16, k17]
    | simp -dsimp (disch := omega) only [w64]
    | refine And.intro (by omega) ?_
    | simp -dsimp [*]
    | refine And.intro ?_ ?_
    | intro h
    | done
  clear hl' hjs hxo
  refine WC.loop (fun m0 fr σ => ∃ k : Int, (-1 ≤ k ∧ k ≤ js'.length + 1) ∧ m0 = ((js'.length : Int) + 1 - k).toNat ∧ σ = [(⟨b1, 6, 6⟩, [x'.lv])] ∧ fr 0 = .ro 1 (ls.map I) ∧ fr 1 = I p ∧ fr 4 = I t ∧ fr 14 = .ro 7 (js'.map Jb.lv) ∧ fr 15 = .ref ⟨b1, 6, 6⟩ 0 0 ∧ fr 16 = I n ∧ fr 17 = I m ∧ fr 18 = I k) ((js'.length : Int) + 1 - -1).toNat
    ⟨-1, by omega, rfl, rfl, by simp -dsimp [k0, k1, k4, k15, k16, k17]⟩ ?_
  have hl0' := hf'.1
  rintro m0 fr σ ⟨k, hk, rfl, rfl, k0, k1, k4, k14, k15, k16, k17, k18⟩
  by_cases hkl : k ≤ js'.length
  · obtain ⟨a, e, hrt⟩ := rtT_tup js' x' n m k
    have t40 := time40 js' x' k n m hf'
    have t42 := time42 js' x' k n m hf'
    rw [hrt] at t40 t42
    repeat' first
      | refine WC.on mixed rfl ?_
      | (refine new_block fun b hb => ?_; try simp at hb)
      | refine call_pure t40 ?_
      | refine call_pure t42 ?_
      | (refine call_new (slack_new js' x' k n m hf') ?_; rintro r1 _ ⟨s1, rfl⟩; obtain ⟨n1, e1, rfl⟩ := (slack_one s1 s1).2)
      | (refine call_new (slack_ref js' x' k n m hf') ?_; rintro r2 _ ⟨s2, rfl⟩; obtain rfl := (slack_one s1 s2).1)
      | simp -dsimp [k0, k1, k4, k14, k15, k16, k17, k18, hkl]
      | simp -dsimp (disch := omega) only [w64]
      | refine And.intro (by omega) ?_
      | refine And.intro ?_ ?_
      | intro h
      | done
    all_goals first
      | (exfalso; omega)
      | exact Round.go _ _ (by omega) (Sub.refl _) ⟨k + 1, by omega, rfl, rfl, by simp -dsimp [k0, k1, k4, k14, k15, k16, k17, k18]⟩
  have hv6 := allV_len js' x' n m
  refine WC.on mixed rfl ?_
  repeat' first
    | (refine new_block fun b hb => ?_; try simp at hb)
    | simp -dsimp [k0, k1, k4, k14, k15, k16, k17, k18, hkl]
    | simp -dsimp (disch := omega) only [w64]
    | refine And.intro (by omega) ?_
    | simp -dsimp [*]
    | refine And.intro ?_ ?_
    | intro h
    | done
  refine WC.on mixed rfl ?_
  repeat' first
    | (refine new_block fun b hb => ?_; try simp at hb)
    | simp -dsimp [k0, k1, k4, k14, k15, k16, k17, k18, hkl]
    | simp -dsimp (disch := omega) only [w64]
    | refine And.intro (by omega) ?_
    | simp -dsimp [*]
    | refine And.intro ?_ ?_
    | intro h
    | done
  refine WC.on mixed rfl ?_
  repeat' first
    | (refine new_block fun b hb => ?_; try simp at hb)
    | simp -dsimp [k0, k1, k4, k14, k15, k16, k17, k18, hkl]
    | simp -dsimp (disch := omega) only [w64]
    | refine And.intro (by omega) ?_
    | simp -dsimp [*]
    | refine And.intro ?_ ?_
    | intro h
    | done
  refine WC.on mixed rfl ?_
  repeat' first
    | (refine new_block fun b hb => ?_; try simp at hb)
    | (refine call_new (all38 js' x' n m hf') ?_; rintro _ _ ⟨v1, rfl, hown⟩)
    | simp -dsimp [k0, k1, k4, k14, k15, k16, k17, k18]
    | simp -dsimp (disch := omega) only [w64]
    | refine And.intro (by omega) ?_
    | simp -dsimp [*]
    | refine And.intro ?_ ?_
    | intro h
    | done
  refine WC.view 27 (y := .ro 2 ((allV js' x' n m).2.map An.lv)) (τ := [(⟨b1, 6, 6⟩, [x'.lv])]) (by simpa -dsimp using View.own (hown.frame _) (An.ones _)) ?_
  clear hown
  refine WC.on mixed rfl ?_
  repeat' first
    | (refine new_block fun b hb => ?_; try simp at hb)
    | (refine call_new (all35 js' x' n m hf') ?_; rintro _ _ ⟨v1, rfl, hown⟩)
    | simp -dsimp [k0, k1, k4, k14, k15, k16, k17, k18]
    | simp -dsimp (disch := omega) only [w64]
    | refine And.intro (by omega) ?_
    | simp -dsimp [*]
    | refine And.intro ?_ ?_
    | intro h
    | done
  refine WC.view 29 (y := .ro 2 ((allV js' x' n m).2.map An.lv)) (τ := [(⟨b1, 6, 6⟩, [x'.lv])]) (by simpa -dsimp using View.own (hown.frame _) (An.ones _)) ?_
  clear hown
  refine WC.on mixed rfl ?_
  repeat' first
    | (refine new_block fun b hb => ?_; try simp at hb)
    | refine call_pure (same44 _ (by omega)) ?_
    | simp -dsimp [k0, k1, k4, k14, k15, k16, k17, k18]
    | simp -dsimp (disch := omega) only [w64]
    | refine And.intro (by omega) ?_
    | simp -dsimp [*]
    | refine And.intro ?_ ?_
    | intro h
    | done
  refine WC.on mixed rfl ?_
  repeat' first
    | (refine new_block fun b hb => ?_; try simp at hb)
    | refine call_pure (same44 _ (by omega)) ?_
    | simp -dsimp [k0, k1, k4, k14, k15, k16, k17, k18]
    | simp -dsimp (disch := omega) only [w64]
    | refine And.intro (by omega) ?_
    | simp -dsimp [*]
    | refine And.intro ?_ ?_
    | intro h
    | done
  refine WC.on mixed rfl ?_
  repeat' first
    | (refine new_block fun b hb => ?_; try simp at hb)
    | refine call_pure (same44 _ (by omega)) ?_
    | simp -dsimp [k0, k1, k4, k14, k15, k16, k17, k18]
    | simp -dsimp (disch := omega) only [w64]
    | refine And.intro (by omega) ?_
    | simp -dsimp [*]
    | refine And.intro ?_ ?_
    | intro h
    | done
  refine WC.on mixed rfl ?_
  repeat' first
    | (refine new_block fun b hb => ?_; try simp at hb)
    | (refine call_new (new16 _) ?_; rintro _ _ ⟨b, rfl, rfl⟩)
    | simp -dsimp [k0, k1, k4, k14, k15, k16, k17, k18]
    | simp -dsimp (disch := omega) only [w64]
    | refine And.intro (by omega) ?_
    | simp -dsimp [*]
    | refine And.intro ?_ ?_
    | intro h
    | done
  refine WC.on mixed rfl ?_
  repeat' first
    | (refine new_block fun b hb => ?_; try simp at hb)
    | (refine next_a (n := 4) hl (by first | assumption | exact Nat.zero_le _) (by omega) (by omega) trivial fun a v ha h0 h1 => ?_)
    | (refine call_split [(dk _, deck ls _)] [_] (List.Perm.refl _) (fun _ _ => trivial) (jobsC ls _ _ _ (by assumption) hl (by omega) (by omega)) ?_; rintro _ _ ⟨a4, js2, c2, room2, ha4, hjs2, rfl, rfl⟩)
    | (refine call_split [(dk _, deck ls _)] [_, _] (List.Perm.refl _) (fun _ _ => trivial) (rates23 ls _ _ (by assumption) hl) ?_; rintro _ _ ⟨x2, a5, ha5, rfl, hxo2, rfl⟩)
    | simp -dsimp [k0, k1, k4, k14, k15, k16, k17, k18]
    | simp -dsimp (disch := omega) only [w64]
    | refine And.intro (by omega) ?_
    | simp -dsimp [*]
    | refine And.intro ?_ ?_
    | intro h
    | done
  have hjl2 := hjs2.1
  have hn2 : (1 + v).toNat ≤ 4 := by omega
  have hn21 : 1 ≤ (1 + v).toNat := by omega
  have hf2 := hjs2.fit (by omega)
  have hl02 := hf2.1
  have hc2 := okC_of (ins := 9) (miss := 7) hjs2 (by omega) hxo2 (by omega) (by omega)
  obtain ⟨hv2, hvx2, hin2, hm2⟩ := id hc2
  have hx2 := hxo2.small
  have m0 := Int.emod_nonneg p (b := js2.length) (by omega)
  have m1 := Int.emod_lt_of_pos p (b := js2.length) (by omega)
  obtain ⟨g, hg⟩ := Int.eq_ofNat_of_zero_le m0
  have hgl : g < js2.length := by omega
  have t0 := Int.emod_nonneg t (b := 3000) (by omega)
  have t1 := Int.emod_lt_of_pos t (b := 3000) (by omega)
  refine WC.view 14 (y := .ro 7 (js2.map Jb.lv)) (τ := [(⟨b1, 6, 6⟩, [x2.lv])]) (by simp -dsimp; exact View.lit rfl (by rw [List.length_map]; exact hjl2.symm) (Jb.ones js2) (Sub.pick [_] (Sub.skip _ (Sub.refl _)))) ?_
  repeat' first
    | refine WC.on mixed rfl ?_
    | (refine new_block fun b hb => ?_; try simp at hb)
    | refine draw_plan 29 [] [(0, 0), (2, 0), (3, 0), (5, 0), (7, 0), (8, 0), (1, 1), (6, 1), (4, 2), (9, 2), (10, 0), (11, 0), (12, 2), (13, 0), (14, 0)] (by kernel_rfl) rfl ?_
    | refine plan_nil ?_
    | refine plan_none rfl (by simp) ?_
    | refine plan_some rfl rfl (by simp) ?_
    | refine call_pure (mod25 _ _ (by omega) (by omega)) ?_
    | refine call_pure (demand39 js2 x2 g 9 7 (t % 3000) hf2 hv2 hx2 hgl hin2 hm2 (by omega) (by omega)) ?_
    | refine call_pure (demand45 js2 x2 g 9 7 (t % 3000) hf2 hv2 hx2 hgl hin2 hm2 (by omega) (by omega)) ?_
    | refine call_pure awake34 ?_
    | simp -dsimp [k0, k1, k4, k14, k15, k16, k17, k18, hg]
    | simp -dsimp (disch := omega) only [w64]
    | refine And.intro (by omega) ?_
    | refine And.intro ?_ ?_
    | intro h
    | done
  all_goals exact ⟨_, Sub.nil _⟩
end Go.Proofs.Ytjamehpnclkjdaa
