/- Releases that a deck gives, for jobs that are one's own. It bears no statement of its own. -/
import Derived.Test.YtjamehpnclkjdaaS24
namespace Go.Proofs.Ytjamehpnclkjdaa
open Go Go.Ls
set_option linter.unusedVariables false
set_option linter.unusedSimpArgs false
set_option maxRecDepth 100000
attribute [local irreducible] Box drawF

def RelR2 (ls : List Int) (b0 n : Nat) (js : List Jb) (cj rj : Nat) (f u : Int) (r : LV) (σ : Heap) : Prop := ∃ (a' : Nat) (l : List Rl), a' ≤ ls.length ∧ l.length ≤ 41 ∧ RelOk n f u l ∧ Own 3 r (l.map Rl.lv) σ [(dk b0, deck ls a'), (⟨cj, 7, rj⟩, js.map Jb.lv)]

set_option maxHeartbeats 8000000 in
theorem releases19o (ls : List Int) (a0 b0 n cj rj : Nat) (js : List Jb) (f u : Int) (ha0 : a0 ≤ ls.length) (hl : ls.length ≤ 1152921504606846976) (hjs : Jobs n js) (hn : n ≤ 1000) (hf : 0 ≤ f ∧ f ≤ 2000) (hu : 0 ≤ u ∧ u ≤ 2000) :
    LCalls Try.prog 19 [.ref (dk b0) 0 0, .msl ⟨cj, 7, rj⟩ 0 js.length, I f, I u] [(dk b0, deck ls a0), (⟨cj, 7, rj⟩, js.map Jb.lv)] (RelR2 ls b0 n js cj rj f u) := by
  have hjl := hjs.1
  have hl0 : js.length ≤ 1000 := by omega
  refine lcalls_go (rts := [.tmp 8]) Try.func19 rfl rfl rfl rfl rfl ?_
  repeat' first
    | refine WC.on mixed rfl ?_
    | (refine new_block fun b hb => ?_; try simp at hb)
    | simp -dsimp []
    | simp -dsimp (disch := omega) only [w64]
    | refine And.intro (by omega) ?_
    | simp -dsimp [*]
    | refine And.intro ?_ ?_
    | intro h
    | done
  refine WC.loop (fun m fr σ => ∃ (i a : Nat) (l : List Rl) (ρ : Heap) (v : LV), i ≤ js.length ∧ m = js.length - i ∧ a ≤ ls.length ∧ l.length ≤ 40 ∧ RelOk n f u l ∧ Own 3 v (l.map Rl.lv) ρ [] ∧ σ = (dk b0, deck ls a) :: (⟨cj, 7, rj⟩, js.map Jb.lv) :: ρ ∧ fr 0 = .ref (dk b0) 0 0 ∧ fr 2 = I f ∧ fr 3 = I u ∧ fr 9 = v ∧ fr 15 = .msl ⟨cj, 7, rj⟩ 0 js.length ∧ fr 16 = I js.length ∧ fr 17 = I i) js.length
    ⟨0, a0, [], [], _, by omega, by omega, ha0, by simp, by intro r hr; simp at hr, Own.none _ _, rfl, by simp -dsimp⟩ ?_
  clear ha0
  rintro m fr σ ⟨i, a, l, ρ, v, hi, rfl, ha, hll, hok, hown, rfl, k0, k2, k3, k9, k15, k16, k17⟩
  refine WC.on mixed rfl ?_
  simp -dsimp [k0, k2, k3, k9, k15, k16, k17]
  refine WC.on mixed rfl ?_
  simp -dsimp
  refine ⟨fun hlt => ?_, fun hge => ?_⟩
  rotate_left
  · repeat' first
      | refine WC.on mixed rfl ?_
      | (refine new_block fun b hb => ?_; try simp at hb)
      | simp -dsimp [k0, k2, k3, k9, k15, k16, k17]
      | simp -dsimp (disch := omega) only [w64]
      | refine And.intro (by omega) ?_
      | simp -dsimp [*]
      | refine And.intro ?_ ?_
      | intro h
      | done
    exact ⟨_, Sub.refl _, a, l, ha, by omega, hok, (hown.more _).more _⟩
  have hj := hjs.2 _ (List.getElem_mem hlt)
  obtain ⟨c1, c2, c3, c4, c5, c6, c7, c8⟩ := id hj
  repeat' first
    | refine WC.on mixed rfl ?_
    | (refine new_block fun b hb => ?_; try simp at hb)
    | refine next_a hl (by assumption) (by omega) (by omega) trivial fun a w ha h0 h1 => ?_
    | refine next_b hl (by assumption) (by omega) (by omega) trivial fun a w ha h0 h1 => ?_
    | refine next_c hl (by assumption) (by omega) (by omega) trivial fun a w ha h0 h1 => ?_
    | simp -dsimp [k0, k2, k3, k9, k15, k16, k17, hlt]
    | simp -dsimp (disch := omega) only [w64]
    | refine And.intro (by omega) ?_
    | simp -dsimp [*]
    | refine And.intro ?_ ?_
    | intro h
    | done
  obtain ⟨b11, hb11⟩ : ∃ b11, b11 = b := ⟨b, rfl⟩
  subst hb11
  refine WC.loop (fun m fr σ => ∃ (at0 : Int) (a : Nat) (l : List Rl) (ρ : Heap) (v : LV), (f ≤ at0 ∧ at0 ≤ 4000) ∧ m = (u - at0).toNat ∧ a ≤ ls.length ∧ l.length ≤ 40 ∧ RelOk n f u l ∧ Own 3 v (l.map Rl.lv) ρ [] ∧ σ = (dk b0, deck ls a) :: (⟨b11, 7, 7⟩, [js[i].lv]) :: (⟨cj, 7, rj⟩, js.map Jb.lv) :: ρ ∧ fr 0 = .ref (dk b0) 0 0 ∧ fr 2 = I f ∧ fr 3 = I u ∧ fr 9 = v ∧ fr 15 = .msl ⟨cj, 7, rj⟩ 0 js.length ∧ fr 16 = I js.length ∧ fr 17 = I i ∧ fr 10 = I i ∧ fr 11 = .ref ⟨b11, 7, 7⟩ 0 0 ∧ fr 12 = I at0) (u - (f + w)).toNat
    ⟨f + w, a, l, ρ, v, by omega, rfl, ha, hll, hok, hown, rfl, by (simp -dsimp [k0, k2, k3, k9, k15, k16, k17]; try simp -dsimp (disch := omega) only [w64])⟩ ?_
  clear hown hok hll ha k0 k2 k3 k9 k15 k16 k17 h0 h1
  rintro m fr σ ⟨at0, a, l, ρ, v, hat, rfl, ha, hll, hok, hown, rfl, k0, k2, k3, k9, k15, k16, k17, k10, k11, k12⟩
  by_cases hau : at0 < u
  rotate_left
  · repeat' first
      | refine WC.on mixed rfl ?_
      | (refine new_block fun b hb => ?_; try simp at hb)
      | simp -dsimp [k0, k2, k3, k9, k15, k16, k17, k10, k11, k12, hau]
      | simp -dsimp (disch := omega) only [w64]
      | refine And.intro (by omega) ?_
      | simp -dsimp [*]
      | refine And.intro ?_ ?_
      | intro h
      | done
    all_goals first
      | (exfalso; omega)
      | exact Round.go (js.length - (i + 1)) ((dk b0, deck ls a) :: (⟨cj, 7, rj⟩, js.map Jb.lv) :: ρ) (by omega) (Sub.cons _ (Sub.skip _ (Sub.refl _))) ⟨i + 1, a, l, ρ, v, by omega, rfl, ha, hll, hok, hown, rfl, by simp -dsimp [k0, k2, k3, k9, k15, k16, k17, k10, k11, k12]⟩
  refine WC.on mixed rfl ?_
  repeat' first
    | (refine new_block fun b hb => ?_; try simp at hb)
    | simp -dsimp [k0, k2, k3, k9, k15, k16, k17, k10, k11, k12, hau]
    | simp -dsimp (disch := omega) only [w64]
    | refine And.intro (by omega) ?_
    | simp -dsimp [*]
    | refine And.intro ?_ ?_
    | intro h
    | done
  refine WC.on mixed rfl ?_
  repeat' first
    | (refine new_block fun b hb => ?_; try simp at hb)
    | simp -dsimp [k0, k2, k3, k9, k15, k16, k17, k10, k11, k12, hau]
    | simp -dsimp (disch := omega) only [w64]
    | refine And.intro (by omega) ?_
    | simp -dsimp [*]
    | refine And.intro ?_ ?_
    | intro h
    | done
  refine WC.on mixed rfl ?_
  repeat' first
    | (refine new_block fun b hb => ?_; try simp at hb)
    | simp -dsimp [k0, k2, k3, k9, k15, k16, k17, k10, k11, k12, hau]
    | simp -dsimp (disch := omega) only [w64]
    | refine And.intro (by omega) ?_
    | simp -dsimp [*]
    | refine And.intro ?_ ?_
    | intro h
    | done
  refine WC.on mixed rfl ?_
  repeat' first
    | (refine new_block fun b hb => ?_; try simp at hb)
    | refine next_a (n := js[i].ji + 1) hl (by assumption) (by omega) (by omega) trivial fun a w ha h0 h1 => ?_
    | simp -dsimp [k0, k2, k3, k9, k15, k16, k17, k10, k11, k12, hau]
    | simp -dsimp (disch := omega) only [w64]
    | refine And.intro (by omega) ?_
    | simp -dsimp [*]
    | refine And.intro ?_ ?_
    | intro h
    | done
  obtain ⟨b13, hb13⟩ : ∃ b13, b13 = b := ⟨b, rfl⟩
  subst hb13
  refine WC.on mixed rfl ?_
  repeat' first
    | (refine new_block fun b hb => ?_; try simp at hb)
    | refine hown.len ?_
    | simp -dsimp [k0, k2, k3, k9, k15, k16, k17, k10, k11, k12, hau]
    | simp -dsimp (disch := omega) only [w64]
    | refine And.intro (by omega) ?_
    | simp -dsimp [*]
    | refine And.intro ?_ ?_
    | intro h
    | done
  rcases hown with ⟨rfl, hnil, hp⟩ | ⟨⟨c, sz, room⟩, hsz, rfl, hp⟩
  · have e : l = [] := by simpa using hnil
    subst e
    have e : ρ = [] := List.Perm.eq_nil hp
    subst e
    refine WC.cut (fun fr σ => ∃ k : Nat, k ≤ ([] : List Rl).length ∧ σ = [(⟨b13, 3, 3⟩, [.agg [I i, I (max f (at0 + w)), .val (.slice none 0 0)]]), (dk b0, deck ls a), (⟨b11, 7, 7⟩, [js[i].lv]), (⟨cj, 7, rj⟩, js.map Jb.lv)] ∧ fr 0 = .ref (dk b0) 0 0 ∧ fr 2 = I f ∧ fr 3 = I u ∧ fr 9 = .val (.slice none 0 0) ∧ fr 15 = .msl ⟨cj, 7, rj⟩ 0 js.length ∧ fr 16 = I js.length ∧ fr 17 = I i ∧ fr 10 = I i ∧ fr 11 = .ref ⟨b11, 7, 7⟩ 0 0 ∧ fr 12 = I at0 ∧ fr 13 = .ref ⟨b13, 3, 3⟩ 0 0 ∧ fr 14 = I k) ?_ ?_
    · repeat' first
        | refine WC.on mixed rfl ?_
        | (refine new_block fun b hb => ?_; try simp at hb)
        | simp -dsimp []
        | simp -dsimp (disch := omega) only [w64]
        | refine And.intro (by omega) ?_
        | simp -dsimp [*]
        | refine And.intro ?_ ?_
        | intro h
        | done
      refine WC.loop (fun m fr σ => ∃ k : Nat, k ≤ ([] : List Rl).length ∧ m = k ∧ σ = [(⟨b13, 3, 3⟩, [.agg [I i, I (max f (at0 + w)), .val (.slice none 0 0)]]), (dk b0, deck ls a), (⟨b11, 7, 7⟩, [js[i].lv]), (⟨cj, 7, rj⟩, js.map Jb.lv)] ∧ fr 0 = .ref (dk b0) 0 0 ∧ fr 2 = I f ∧ fr 3 = I u ∧ fr 9 = .val (.slice none 0 0) ∧ fr 15 = .msl ⟨cj, 7, rj⟩ 0 js.length ∧ fr 16 = I js.length ∧ fr 17 = I i ∧ fr 10 = I i ∧ fr 11 = .ref ⟨b11, 7, 7⟩ 0 0 ∧ fr 12 = I at0 ∧ fr 13 = .ref ⟨b13, 3, 3⟩ 0 0 ∧ fr 14 = I k) ([] : List Rl).length
        ⟨([] : List Rl).length, Nat.le_refl _, rfl, by first | rfl | (simp -dsimp (disch := omega) only [w64]; rfl), by simp -dsimp [k0, k2, k3, k9, k15, k16, k17, k10, k11, k12]⟩ ?_
      rintro m fr σ ⟨k, hk, hm, rfl, k0, k2, k3, k9, k15, k16, k17, k10, k11, k12, k13, k14⟩
      rcases k with _ | k
      · repeat' first
          | refine WC.on mixed rfl ?_
          | (refine new_block fun b hb => ?_; try simp at hb)
          | refine draw_plan 10 [] [(0, 0), (1, 0), (2, 0), (3, 0), (4, 0), (5, 0), (6, 0), (7, 0), (9, 0), (8, 1), (10, 1), (11, 0), (12, 0)] (by kernel_rfl) rfl ?_
          | refine plan_nil ?_
          | refine plan_none rfl (by simp) ?_
          | refine plan_some rfl rfl (by simp) ?_
          | simp -dsimp [k0, k2, k3, k9, k15, k16, k17, k10, k11, k12, k13, k14]
          | simp -dsimp (disch := omega) only [w64]
          | refine And.intro (by omega) ?_
          | simp -dsimp [*]
          | refine And.intro ?_ ?_
          | intro h
          | done
        all_goals exact Mid.go _ (Sub.refl _) ⟨0, by omega, rfl, by simp -dsimp [k0, k2, k3, k9, k15, k16, k17, k10, k11, k12, k13, k14]⟩
      · exfalso
        simp at hk
    rintro fr σ ⟨k, hk, rfl, k0, k2, k3, k9, k15, k16, k17, k10, k11, k12, k13, k14⟩
    have hr : (0 ≤ (⟨i, max f (at0 + w)⟩ : Rl).un ∧ (⟨i, max f (at0 + w)⟩ : Rl).un < n) ∧ f ≤ (⟨i, max f (at0 + w)⟩ : Rl).ti ∧ ((⟨i, max f (at0 + w)⟩ : Rl).ti ≤ f ∨ (⟨i, max f (at0 + w)⟩ : Rl).ti < u + 10) := by simp only; omega
    have e : k = 0 := by simpa using hk
    subst e
    repeat' first
      | refine WC.on mixed rfl ?_
      | (refine new_block fun b hb => ?_; try simp at hb)
      | refine draw_plan 12 [] [(0, 0), (1, 0), (2, 0), (5, 0), (6, 0), (7, 0), (3, 1), (4, 2), (8, 2), (9, 2), (10, 0)] (by kernel_rfl) rfl ?_
      | refine draw_plan 7 [b0] [(0, 0), (1, 0), (3, 0), (6, 0), (9, 0), (2, 1), (4, 2), (5, 0), (7, 2), (8, 0), (10, 2), (11, 0), (12, 0), (13, 0), (14, 0)] (by kernel_rfl) rfl ?_
      | refine plan_nil ?_
      | refine plan_none rfl (by simp) ?_
      | refine plan_some rfl rfl (by simp) ?_
      | refine ins_a (r := ⟨i, max f (at0 + w)⟩) (ys := []) (.inr (.inl ⟨rfl, rfl⟩)) (by simp) fun b2 room2 hfr => ?_
      | (refine app_litn [] [_, _, _] ty_sl28 rfl (by simp) (Own.none _ _) (Sub.skip _ (Sub.refl _)) (fun _ _ e => by cases e) (by simp [maxLen]) (by simp) (by simp) fun b5 room5 _ => ?_)
      | refine next_b (n := 20) hl (by assumption) (by omega) (by omega) (by simp) fun a w1 ha e0 e1 => ?_
      | (refine next_a (n := 12) hl (by assumption) (by omega) (by omega) (by simp) fun a w2 ha g0 g1 => ?_; have hq : w2.tdiv 10 = 0 ∨ w2.tdiv 10 = 1 := (by rw [Int.tdiv_eq_ediv_of_nonneg g0]; omega); rcases hq with hq | hq)
      | refine next_a hl (by assumption) (by omega) (by omega) (by simp) fun a w3 ha h0 h1 => ?_
      | simp -dsimp [k0, k2, k3, k9, k15, k16, k17, k10, k11, k12, k13, k14]
      | simp -dsimp (disch := omega) only [w64]
      | refine And.intro (by omega) ?_
      | simp -dsimp [*]
      | refine And.intro ?_ ?_
      | intro h
      | done
    all_goals try (exfalso; omega)
    all_goals first
      | exact ⟨_, Sub.cons _ (Sub.cons _ (Sub.skip _ (Sub.refl _))), _, _, ha, by (rw [insR_len (by first | exact hk | exact Nat.le_refl _ | exact Nat.zero_le _)]; first | omega | (simp; done)), hok.ins hr, Own.blk (by (rw [List.length_map, insR_len (by first | exact hk | exact Nat.le_refl _ | exact Nat.zero_le _)]; try rfl))⟩
      | (refine Round.go _ ((dk b0, deck ls _) :: (⟨b11, 7, 7⟩, [js[i].lv]) :: (⟨cj, 7, rj⟩, js.map Jb.lv) :: [(⟨b5, 3, room5⟩, _)]) ?_ (Sub.cons _ (Sub.pick [_] (Sub.pick [_] (Sub.refl _)))) ⟨_, _, _, _, .msl ⟨b5, 3, room5⟩ 0 1, ?_, rfl, by assumption, by (rw [insR_len (by first | exact hk | exact Nat.le_refl _ | exact Nat.zero_le _)]; first | omega | (simp; done)), hok.ins hr, Own.blk (by (rw [List.length_map, insR_len (by first | exact hk | exact Nat.le_refl _ | exact Nat.zero_le _)]; try rfl)), rfl, by (simp -dsimp [k0, k2, k3, k9, k15, k16, k17, k10, k11, k12, k13, k14]; done), by (simp -dsimp [k0, k2, k3, k9, k15, k16, k17, k10, k11, k12, k13, k14]; done), by (simp -dsimp [k0, k2, k3, k9, k15, k16, k17, k10, k11, k12, k13, k14]; done), by (simp -dsimp [k0, k2, k3, k9, k15, k16, k17, k10, k11, k12, k13, k14]; done), by (simp -dsimp [k0, k2, k3, k9, k15, k16, k17, k10, k11, k12, k13, k14]; done), by (simp -dsimp [k0, k2, k3, k9, k15, k16, k17, k10, k11, k12, k13, k14]; done), by (simp -dsimp [k0, k2, k3, k9, k15, k16, k17, k10, k11, k12, k13, k14]; done), by (simp -dsimp [k0, k2, k3, k9, k15, k16, k17, k10, k11, k12, k13, k14]; done), by (simp -dsimp [k0, k2, k3, k9, k15, k16, k17, k10, k11, k12, k13, k14]; done), rfl⟩ <;> omega)
      | trace_state
  · simp only at hsz
    subst hsz
    refine WC.drop (τ := [(⟨b13, 3, 3⟩, [.agg [I i, I (max f (at0 + w)), .val (.slice none 0 0)]]), (dk b0, deck ls a), (⟨b11, 7, 7⟩, [js[i].lv]), (⟨cj, 7, rj⟩, js.map Jb.lv), (⟨c, 3, room⟩, l.map Rl.lv)]) (by first | exact Sub.cons _ (Sub.cons _ (Sub.cons _ (Sub.cons _ (Sub.of_perm hp)))) | (simp -dsimp (disch := omega) only [w64]; exact Sub.cons _ (Sub.cons _ (Sub.cons _ (Sub.cons _ (Sub.of_perm hp)))))) ?_
    refine WC.nodup fun hnd => ?_
    simp at hnd
    have hne13 : ¬ c = b13 := by omega
    refine WC.cut (fun fr σ => ∃ k : Nat, k ≤ l.length ∧ σ = [(⟨b13, 3, 3⟩, [.agg [I i, I (max f (at0 + w)), .val (.slice none 0 0)]]), (dk b0, deck ls a), (⟨b11, 7, 7⟩, [js[i].lv]), (⟨cj, 7, rj⟩, js.map Jb.lv), (⟨c, 3, room⟩, l.map Rl.lv)] ∧ fr 0 = .ref (dk b0) 0 0 ∧ fr 2 = I f ∧ fr 3 = I u ∧ fr 9 = .msl ⟨c, 3, room⟩ 0 l.length ∧ fr 15 = .msl ⟨cj, 7, rj⟩ 0 js.length ∧ fr 16 = I js.length ∧ fr 17 = I i ∧ fr 10 = I i ∧ fr 11 = .ref ⟨b11, 7, 7⟩ 0 0 ∧ fr 12 = I at0 ∧ fr 13 = .ref ⟨b13, 3, 3⟩ 0 0 ∧ fr 14 = I k) ?_ ?_
    · repeat' first
        | refine WC.on mixed rfl ?_
        | (refine new_block fun b hb => ?_; try simp at hb)
        | simp -dsimp []
        | simp -dsimp (disch := omega) only [w64]
        | refine And.intro (by omega) ?_
        | simp -dsimp [*]
        | refine And.intro ?_ ?_
        | intro h
        | done
      refine WC.loop (fun m fr σ => ∃ k : Nat, k ≤ l.length ∧ m = k ∧ σ = [(⟨b13, 3, 3⟩, [.agg [I i, I (max f (at0 + w)), .val (.slice none 0 0)]]), (dk b0, deck ls a), (⟨b11, 7, 7⟩, [js[i].lv]), (⟨cj, 7, rj⟩, js.map Jb.lv), (⟨c, 3, room⟩, l.map Rl.lv)] ∧ fr 0 = .ref (dk b0) 0 0 ∧ fr 2 = I f ∧ fr 3 = I u ∧ fr 9 = .msl ⟨c, 3, room⟩ 0 l.length ∧ fr 15 = .msl ⟨cj, 7, rj⟩ 0 js.length ∧ fr 16 = I js.length ∧ fr 17 = I i ∧ fr 10 = I i ∧ fr 11 = .ref ⟨b11, 7, 7⟩ 0 0 ∧ fr 12 = I at0 ∧ fr 13 = .ref ⟨b13, 3, 3⟩ 0 0 ∧ fr 14 = I k) l.length
        ⟨l.length, Nat.le_refl _, rfl, by first | rfl | (simp -dsimp (disch := omega) only [w64]; rfl), by simp -dsimp [k0, k2, k3, k9, k15, k16, k17, k10, k11, k12]⟩ ?_
      rintro m fr σ ⟨k, hk, hm, rfl, k0, k2, k3, k9, k15, k16, k17, k10, k11, k12, k13, k14⟩
      rcases k with _ | k
      · repeat' first
          | refine WC.on mixed rfl ?_
          | (refine new_block fun b hb => ?_; try simp at hb)
          | refine draw_plan 10 [] [(0, 0), (1, 0), (2, 0), (3, 0), (4, 0), (5, 0), (6, 0), (7, 0), (9, 0), (8, 1), (10, 1), (11, 0), (12, 0)] (by kernel_rfl) rfl ?_
          | refine plan_nil ?_
          | refine plan_none rfl (by simp) ?_
          | refine plan_some rfl rfl (by simp) ?_
          | simp -dsimp [k0, k2, k3, k9, k15, k16, k17, k10, k11, k12, k13, k14]
          | simp -dsimp (disch := omega) only [w64]
          | refine And.intro (by omega) ?_
          | simp -dsimp [*]
          | refine And.intro ?_ ?_
          | intro h
          | done
        all_goals exact Mid.go _ (Sub.refl _) ⟨0, by omega, rfl, by simp -dsimp [k0, k2, k3, k9, k15, k16, k17, k10, k11, k12, k13, k14]⟩
      · have hkl : k < l.length := by omega
        repeat' first
          | refine WC.on mixed rfl ?_
          | (refine new_block fun b hb => ?_; try simp at hb)
          | refine draw_plan 10 [] [(0, 0), (1, 0), (2, 0), (3, 0), (4, 0), (5, 0), (6, 0), (7, 0), (9, 0), (8, 1), (10, 1), (11, 0), (12, 0)] (by kernel_rfl) rfl ?_
          | refine plan_nil ?_
          | refine plan_none rfl (by simp) ?_
          | refine plan_some rfl rfl (by simp) ?_
          | simp -dsimp [k0, k2, k3, k9, k15, k16, k17, k10, k11, k12, k13, k14, hkl]
          | simp -dsimp (disch := omega) only [w64]
          | refine And.intro (by omega) ?_
          | simp -dsimp [*]
          | refine And.intro ?_ ?_
          | intro h
          | done
        all_goals first
          | (exfalso; omega)
          | exact Mid.go _ (Sub.refl _) ⟨k + 1, by omega, rfl, by simp -dsimp [k0, k2, k3, k9, k15, k16, k17, k10, k11, k12, k13, k14]⟩
          | exact Round.go k _ (by omega) (Sub.refl _) ⟨k, by omega, rfl, rfl, by simp -dsimp [k0, k2, k3, k9, k15, k16, k17, k10, k11, k12, k13, k14]⟩
    rintro fr σ ⟨k, hk, rfl, k0, k2, k3, k9, k15, k16, k17, k10, k11, k12, k13, k14⟩
    have hr : (0 ≤ (⟨i, max f (at0 + w)⟩ : Rl).un ∧ (⟨i, max f (at0 + w)⟩ : Rl).un < n) ∧ f ≤ (⟨i, max f (at0 + w)⟩ : Rl).ti ∧ ((⟨i, max f (at0 + w)⟩ : Rl).ti ≤ f ∨ (⟨i, max f (at0 + w)⟩ : Rl).ti < u + 10) := by simp only; omega
    repeat' first
      | refine WC.on mixed rfl ?_
      | (refine new_block fun b hb => ?_; try simp at hb)
      | refine draw_plan 12 [c] [(0, 0), (1, 0), (2, 0), (5, 0), (6, 0), (7, 0), (3, 1), (4, 2), (8, 2), (9, 2), (10, 0)] (by kernel_rfl) rfl ?_
      | refine draw_plan 7 [b0] [(0, 0), (1, 0), (3, 0), (6, 0), (9, 0), (2, 1), (4, 2), (5, 0), (7, 2), (8, 0), (10, 2), (11, 0), (12, 0), (13, 0), (14, 0)] (by kernel_rfl) rfl ?_
      | refine plan_nil ?_
      | refine plan_none rfl (by simp) ?_
      | refine plan_some rfl rfl (by simp) ?_
      | (refine ins_a (r := ⟨i, max f (at0 + w)⟩) (ys := (l.map Rl.lv).drop k) (.inr (.inr ⟨⟨c, 3, room⟩, k, l.length - k, l.map Rl.lv, rfl, rfl, by (simp [look, hne13, hb.2.2.2]; done), by (simp; omega), by rw [List.take_of_length_le (by simp)]⟩)) (by simp; omega) fun b2 room2 hfr => ?_)
      | (refine ins_a (r := ⟨i, max f (at0 + w)⟩) (ys := []) (.inl rfl) (by simp) fun b2 room2 hfr => ?_)
      | (refine ins_b (r := ⟨i, max f (at0 + w)⟩) [_, _, _, _] [_, _, _] hk (by simp) (by omega) (by simp) (Sub.skip _ (Sub.refl _)) fun b5 room5 => ?_)
      | (refine ins_b0 (r := ⟨i, max f (at0 + w)⟩) [_, _, _, _] [_, _, _] (by first | rfl | assumption) rfl (by omega) (by simp) (Sub.skip _ (Sub.refl _)) fun b5 room5 => ?_)
      | refine next_b (n := 20) hl (by assumption) (by omega) (by omega) (by simp) fun a w1 ha e0 e1 => ?_
      | (refine next_a (n := 12) hl (by assumption) (by omega) (by omega) (by simp) fun a w2 ha g0 g1 => ?_; have hq : w2.tdiv 10 = 0 ∨ w2.tdiv 10 = 1 := (by rw [Int.tdiv_eq_ediv_of_nonneg g0]; omega); rcases hq with hq | hq)
      | refine next_a hl (by assumption) (by omega) (by omega) (by simp) fun a w3 ha h0 h1 => ?_
      | simp -dsimp [k0, k2, k3, k9, k15, k16, k17, k10, k11, k12, k13, k14]
      | simp -dsimp (disch := omega) only [w64]
      | refine And.intro (by omega) ?_
      | simp -dsimp [*]
      | refine And.intro ?_ ?_
      | intro h
      | done
    all_goals try (exfalso; omega)
    all_goals first
      | exact ⟨_, Sub.cons _ (Sub.cons _ (Sub.skip _ (Sub.refl _))), _, _, ha, by (rw [insR_len (by first | exact hk | exact Nat.le_refl _ | exact Nat.zero_le _)]; first | omega | (simp; done)), hok.ins hr, Own.blk (by (rw [List.length_map, insR_len (by first | exact hk | exact Nat.le_refl _ | exact Nat.zero_le _)]; try rfl))⟩
      | (refine Round.go _ ((dk b0, deck ls _) :: (⟨b11, 7, 7⟩, [js[i].lv]) :: (⟨cj, 7, rj⟩, js.map Jb.lv) :: [(⟨b5, 3, room5⟩, _)]) ?_ (Sub.cons _ (Sub.pick [_] (Sub.pick [_] (Sub.refl _)))) ⟨_, _, _, _, .msl ⟨b5, 3, room5⟩ 0 (l.length + 1), ?_, rfl, by assumption, by (rw [insR_len (by first | exact hk | exact Nat.le_refl _ | exact Nat.zero_le _)]; first | omega | (simp; done)), hok.ins hr, Own.blk (by (rw [List.length_map, insR_len (by first | exact hk | exact Nat.le_refl _ | exact Nat.zero_le _)]; try rfl)), rfl, by (simp -dsimp [k0, k2, k3, k9, k15, k16, k17, k10, k11, k12, k13, k14]; done), by (simp -dsimp [k0, k2, k3, k9, k15, k16, k17, k10, k11, k12, k13, k14]; done), by (simp -dsimp [k0, k2, k3, k9, k15, k16, k17, k10, k11, k12, k13, k14]; done), by (simp -dsimp [k0, k2, k3, k9, k15, k16, k17, k10, k11, k12, k13, k14]; done), by (simp -dsimp [k0, k2, k3, k9, k15, k16, k17, k10, k11, k12, k13, k14]; done), by (simp -dsimp [k0, k2, k3, k9, k15, k16, k17, k10, k11, k12, k13, k14]; done), by (simp -dsimp [k0, k2, k3, k9, k15, k16, k17, k10, k11, k12, k13, k14]; done), by (simp -dsimp [k0, k2, k3, k9, k15, k16, k17, k10, k11, k12, k13, k14]; done), by (simp -dsimp [k0, k2, k3, k9, k15, k16, k17, k10, k11, k12, k13, k14]; done), rfl⟩ <;> omega)
      | trace_state
end Go.Proofs.Ytjamehpnclkjdaa
