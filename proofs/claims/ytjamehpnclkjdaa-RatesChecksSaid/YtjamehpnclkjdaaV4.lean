/- The law RatesChecks, whole. It bears no statement of its own. -/
import Derived.Test.YtjamehpnclkjdaaR12
import Derived.Test.YtjamehpnclkjdaaR13
import Derived.Test.YtjamehpnclkjdaaR14
import Derived.Test.YtjamehpnclkjdaaLt
namespace Go.Proofs.Ytjamehpnclkjdaa
open Go Go.Ls
set_option linter.unusedVariables false
set_option linter.unusedSimpArgs false
set_option maxRecDepth 100000
attribute [local irreducible] Box drawF

theorem Db.ones (l : List Db) : ∀ x ∈ l.map Db.lv, x.cells.all LV.one = true := fun y hy => by
  obtain ⟨z, _, rfl⟩ := List.mem_map.1 hy
  rfl
theorem rt_heap (B : Blk) (τ : Heap) (a b c d e f : Int) : (B, [LV.agg [I a, I b, I c, I d, I e, I f]]) :: τ = (B, [Rt.lv ⟨a, b, c, d, e, f⟩]) :: τ := rfl
theorem db_set (l : List Db) (k : Nat) (t a : Int) (d : Bool) (s p : Int) : (l.map Db.lv).set k (.agg [I t, I a, Bo d, I s, I p]) = (l.set k ⟨t, a, d, s, p⟩).map Db.lv := by rw [List.map_set]; rfl
theorem db_upd (l : List Db) (k c room : Nat) (t a : Int) (d : Bool) (s p : Int) (τ : Heap) : View ((⟨c, 5, room⟩, (l.map Db.lv).set k (.agg [I t, I a, Bo d, I s, I p])) :: τ) τ (.msl ⟨c, 5, room⟩ 0 l.length) (.ro 5 ((l.set k ⟨t, a, d, s, p⟩).map Db.lv)) := by
  rw [db_set]
  exact View.lit rfl (by simp) (Db.ones _) (Sub.refl _)

set_option maxHeartbeats 8000000 in
theorem law4 (raw : Rt) (rl : List Db) (ls : List Int) (p q : Int) (hl : ls.length ≤ 1152921504606846976) : LCalls Try.prog 4 [raw.lv, .ro 5 (rl.map Db.lv), .ro 1 (ls.map I), I p, I q] [] fun r σ => r = Bo true := by
  by_cases h300 : 300 < rl.length
  · have h300' : (300 : Int) < rl.length := by omega
    refine lcalls_go (rts := [.tmp 10]) Try.func4 rfl rfl rfl rfl rfl ?_
    repeat' first
      | refine WC.on mixed rfl ?_
      | (refine new_block fun b hb => ?_; try simp at hb)
      | refine call_pure awake22 ?_
      | simp -dsimp [h300']
      | simp -dsimp (disch := omega) only [w64]
      | refine And.intro (by omega) ?_
      | simp -dsimp [*]
      | refine And.intro ?_ ?_
      | intro h
      | done
    all_goals exact ⟨_, Sub.nil _⟩
  have h300' : ¬ (300 : Int) < rl.length := by omega
  refine lcalls_go (rts := [.tmp 10]) Try.func4 rfl rfl rfl rfl rfl ?_
  refine WC.on mixed rfl ?_
  repeat' first
    | (refine new_block fun b hb => ?_; try simp at hb)
    | simp -dsimp [h300']
    | simp -dsimp (disch := omega) only [w64]
    | refine And.intro (by omega) ?_
    | simp -dsimp [*]
    | refine And.intro ?_ ?_
    | intro h
    | done
  obtain ⟨b5, hb5⟩ : ∃ b5, b5 = b := ⟨b, rfl⟩
  subst hb5
  refine WC.on mixed rfl ?_
  repeat' first
    | (refine new_block fun b hb => ?_; try simp at hb)
    | (refine call_new (new16 _) ?_; rintro _ _ ⟨bd, rfl, rfl⟩)
    | (refine call_split [(dk _, deck ls 0)] [_] (List.Perm.refl _) (fun _ _ => trivial) (rates23 ls 0 _ (Nat.zero_le _) hl) ?_; rintro _ _ ⟨x, a, ha, rfl, hxo, rfl⟩)
    | simp -dsimp [h300']
    | simp -dsimp (disch := omega) only [w64]
    | refine And.intro (by omega) ?_
    | simp -dsimp [*]
    | refine And.intro ?_ ?_
    | intro h
    | done
  refine WC.on mixed rfl ?_
  repeat' first
    | (refine new_block fun b hb => ?_; try simp at hb)
    | (refine call_new (new16 _) ?_; rintro _ _ ⟨bd, rfl, rfl⟩)
    | (refine call_split [(dk _, deck ls 0)] [_] (List.Perm.refl _) (fun _ _ => trivial) (rates23 ls 0 _ (Nat.zero_le _) hl) ?_; rintro _ _ ⟨x, a, ha, rfl, hxo, rfl⟩)
    | simp -dsimp [h300']
    | simp -dsimp (disch := omega) only [w64]
    | refine And.intro (by omega) ?_
    | simp -dsimp [*]
    | refine And.intro ?_ ?_
    | intro h
    | done
  refine WC.on mixed rfl ?_
  repeat' first
    | (refine new_block fun b hb => ?_; try simp at hb)
    | (refine call_new (new16 _) ?_; rintro _ _ ⟨bd, rfl, rfl⟩)
    | (refine call_split [(dk _, deck ls 0)] [_] (List.Perm.refl _) (fun _ _ => trivial) (rates23 ls 0 _ (Nat.zero_le _) hl) ?_; rintro _ _ ⟨x, a, ha, rfl, hxo, rfl⟩)
    | simp -dsimp [h300']
    | simp -dsimp (disch := omega) only [w64]
    | refine And.intro (by omega) ?_
    | simp -dsimp [*]
    | refine And.intro ?_ ?_
    | intro h
    | done
  refine WC.on mixed rfl ?_
  repeat' first
    | (refine new_block fun b hb => ?_; try simp at hb)
    | (refine call_new (new16 _) ?_; rintro _ _ ⟨bd, rfl, rfl⟩)
    | (refine call_split [(dk _, deck ls 0)] [_] (List.Perm.refl _) (fun _ _ => trivial) (rates23 ls 0 _ (Nat.zero_le _) hl) ?_; rintro _ _ ⟨x, a, ha, rfl, hxo, rfl⟩)
    | simp -dsimp [h300']
    | simp -dsimp (disch := omega) only [w64]
    | refine And.intro (by omega) ?_
    | simp -dsimp [*]
    | refine And.intro ?_ ?_
    | intro h
    | done
  refine WC.on mixed rfl ?_
  repeat' first
    | (refine new_block fun b hb => ?_; try simp at hb)
    | (refine call_new (new16 _) ?_; rintro _ _ ⟨bd, rfl, rfl⟩)
    | (refine call_split [(dk _, deck ls 0)] [_] (List.Perm.refl _) (fun _ _ => trivial) (rates23 ls 0 _ (Nat.zero_le _) hl) ?_; rintro _ _ ⟨x, a, ha, rfl, hxo, rfl⟩)
    | simp -dsimp [h300']
    | simp -dsimp (disch := omega) only [w64]
    | refine And.intro (by omega) ?_
    | simp -dsimp [*]
    | refine And.intro ?_ ?_
    | intro h
    | done
  obtain ⟨b12, hb12⟩ : ∃ b12, b12 = b := ⟨b, rfl⟩
  subst hb12
  refine WC.on mixed rfl ?_
  repeat' first
    | (refine new_block fun b hb => ?_; try simp at hb)
    | (refine call_split [(dk _, deck ls _)] [_, _] (List.Perm.swap _ _ _) (fun _ _ => trivial) (disturbs24 ls _ _ x 3000 false ha hl (by omega) (by omega)) ?_; rintro v13 σ1 ⟨a2, l1, ha2, hd1, hown1⟩)
    | simp -dsimp []
    | simp -dsimp (disch := omega) only [w64]
    | refine And.intro (by omega) ?_
    | simp -dsimp [*]
    | refine And.intro ?_ ?_
    | intro h
    | done
  refine WC.view 13 (y := .ro 5 (l1.map Db.lv)) (τ := [(dk bd, deck ls a2), (⟨b12, 6, 6⟩, [x.lv]), (⟨b5, 6, 6⟩, [raw.lv])]) (by simpa -dsimp using View.own (hown1.app _) (by simp)) ?_
  clear hown1
  refine WC.on mixed rfl ?_
  repeat' first
    | (refine new_block fun b hb => ?_; try simp at hb)
    | (refine call_split [(dk _, deck ls _)] [_, _] (List.Perm.refl _) (fun _ _ => trivial) (disturbs24 ls _ _ x 3000 true ha2 hl (by omega) (by omega)) ?_; rintro v14 σ2 ⟨a3, l2, ha3, hd2, hown2⟩)
    | simp -dsimp []
    | simp -dsimp (disch := omega) only [w64]
    | refine And.intro (by omega) ?_
    | simp -dsimp [*]
    | refine And.intro ?_ ?_
    | intro h
    | done
  refine WC.cutv (fun fr σ => ∃ (bad : List Db) (v14 : LV) (σ0 : Heap), bad.length ≤ 40 ∧ σ = σ0 ∧ View σ0 [(⟨b12, 6, 6⟩, [x.lv]), (⟨b5, 6, 6⟩, [raw.lv])] v14 (.ro 5 (bad.map Db.lv)) ∧ fr 1 = .ro 5 (rl.map Db.lv) ∧ fr 3 = I p ∧ fr 4 = I q ∧ fr 5 = .ref ⟨b5, 6, 6⟩ 0 0 ∧ fr 12 = .ref ⟨b12, 6, 6⟩ 0 0 ∧ fr 13 = .ro 5 (l1.map Db.lv) ∧ fr 14 = v14) ?_ ?_
  · have hd2l := hd2.1
    rcases hown2 with ⟨rfl, hl2, hp2⟩ | ⟨⟨c, sz, room⟩, hsz, rfl, hp2⟩
    · have hl2' : l2 = [] := by simpa using hl2
      subst hl2'
      repeat' first
        | refine WC.on mixed rfl ?_
        | (refine new_block fun b hb => ?_; try simp at hb)
        | simp -dsimp []
        | simp -dsimp (disch := omega) only [w64]
        | refine And.intro (by omega) ?_
        | simp -dsimp [*]
        | refine And.intro ?_ ?_
        | intro h
        | done
      all_goals exact Midv.go [(⟨b12, 6, 6⟩, [x.lv]), (⟨b5, 6, 6⟩, [raw.lv])] (Sub.skips _) ⟨[], _, _, by simp, rfl, View.nil (Sub.refl _), by simp -dsimp, by simp -dsimp, by simp -dsimp, by simp -dsimp, by simp -dsimp, by simp -dsimp, by simp -dsimp⟩
    · simp only at hsz
      subst hsz
      refine WC.drop (τ := (⟨c, 5, room⟩, l2.map Db.lv) :: [(⟨b12, 6, 6⟩, [x.lv]), (⟨b5, 6, 6⟩, [raw.lv])]) ?_ ?_
      · exact (Sub.cons _ (Sub.skip _ (Sub.refl _))).trans (Sub.of_perm (hp2.append_right [(⟨b12, 6, 6⟩, [x.lv]), (⟨b5, 6, 6⟩, [raw.lv])]))
      by_cases hz : l2.length = 0
      · obtain rfl : l2 = [] := List.eq_nil_of_length_eq_zero hz
        have hz2 : ¬ (0 : Int) < ([] : List Db).length := by simp
        repeat' first
          | refine WC.on mixed rfl ?_
          | (refine new_block fun b hb => ?_; try simp at hb)
          | simp -dsimp [hz2]
          | simp -dsimp (disch := omega) only [w64]
          | refine And.intro (by omega) ?_
          | simp -dsimp [*]
          | refine And.intro ?_ ?_
          | intro h
          | done
        all_goals exact Midv.go _ (Sub.refl _) ⟨[], .msl ⟨c, 5, room⟩ 0 0, _, by simp, rfl, View.lit rfl (by simp) (by simp) (Sub.refl _), by simp -dsimp, by simp -dsimp, by simp -dsimp, by simp -dsimp, by simp -dsimp, by simp -dsimp, by simp -dsimp⟩
      · have hz2 : (0 : Int) < l2.length := by omega
        have q1 := Int.emod_nonneg q (b := (l2.length : Int)) (by omega)
        have q2 := Int.emod_lt_of_pos q (b := (l2.length : Int)) (by omega)
        obtain ⟨k, hk⟩ : ∃ k : Nat, q % (l2.length : Int) = k := ⟨(q % (l2.length : Int)).toNat, by omega⟩
        have hkl : k < l2.length := by omega
        have p1 := Int.emod_nonneg p (b := 6) (by omega)
        have p2 := Int.emod_lt_of_pos p (b := 6) (by omega)
        have q3 := Int.emod_nonneg q (b := 6) (by omega)
        have q4 := Int.emod_lt_of_pos q (b := 6) (by omega)
        have q5 := Int.emod_nonneg q (b := 3) (by omega)
        have q6 := Int.emod_lt_of_pos q (b := 3) (by omega)
        repeat' first
          | refine WC.on mixed rfl ?_
          | (refine new_block fun b hb => ?_; try simp at hb)
          | refine call_pure (mod25 _ _ (by omega) (by omega)) ?_
          | simp -dsimp [hz2, hk, hkl]
          | simp -dsimp (disch := omega) only [w64]
          | refine And.intro (by omega) ?_
          | simp -dsimp [*]
          | refine And.intro ?_ ?_
          | intro h
          | done
        all_goals first
          | (exfalso; refine hz ?_; rw [h]; rfl)
          | exact Midv.go _ (Sub.refl _) ⟨_, .msl ⟨c, 5, room⟩ 0 l2.length, _, by rw [List.length_set]; exact hd2l, rfl, db_upd l2 k c room _ _ _ _ _ [(⟨b12, 6, 6⟩, [x.lv]), (⟨b5, 6, 6⟩, [raw.lv])], by simp -dsimp, by simp -dsimp, by simp -dsimp, by simp -dsimp, by simp -dsimp, by simp -dsimp, by simp -dsimp⟩
          | exact Midv.go _ (Sub.refl _) ⟨l2, .msl ⟨c, 5, room⟩ 0 l2.length, _, hd2l, rfl, View.lit rfl (by simp) (Db.ones _) (Sub.refl _), by simp -dsimp, by simp -dsimp, by simp -dsimp, by simp -dsimp, by simp -dsimp, by simp -dsimp, by simp -dsimp⟩
  rintro fr σ ⟨bad, v14, σ0, hbl, rfl, hview, k1, k3, k4, k5, k12, k13, k14⟩
  refine WC.view 14 (y := .ro 5 (bad.map Db.lv)) (τ := [(⟨b12, 6, 6⟩, [x.lv]), (⟨b5, 6, 6⟩, [raw.lv])]) (by rw [k14]; exact hview) ?_
  clear k14 hview hown2
  refine WC.on mixed rfl ?_
  repeat' first
    | (refine new_block fun b hb => ?_; try simp at hb)
    | simp -dsimp [k1, k3, k4, k5, k12, k13]
    | simp -dsimp (disch := omega) only [w64]
    | refine And.intro (by omega) ?_
    | simp -dsimp [*]
    | refine And.intro ?_ ?_
    | intro h
    | done
  obtain ⟨b16, hb16⟩ : ∃ b16, b16 = b := ⟨b, rfl⟩
  subst hb16
  refine WC.cutv (fun fr σ => ∃ y : Rt, σ = [(⟨b16, 6, 6⟩, [y.lv]), (⟨b12, 6, 6⟩, [x.lv]), (⟨b5, 6, 6⟩, [raw.lv])] ∧ fr 1 = .ro 5 (rl.map Db.lv) ∧ fr 3 = I p ∧ fr 4 = I q ∧ fr 5 = .ref ⟨b5, 6, 6⟩ 0 0 ∧ fr 12 = .ref ⟨b12, 6, 6⟩ 0 0 ∧ fr 13 = .ro 5 (l1.map Db.lv) ∧ fr 14 = .ro 5 (bad.map Db.lv) ∧ fr 16 = .ref ⟨b16, 6, 6⟩ 0 0) ?_ ?_
  · skip
    repeat' first
      | refine WC.on mixed rfl ?_
      | (refine new_block fun b hb => ?_; try simp at hb)
      | refine call_pure (mod25 _ _ (by omega) (by omega)) ?_
      | simp -dsimp [k1, k3, k4, k5, k12, k13]
      | simp -dsimp (disch := omega) only [w64]
      | refine And.intro (by omega) ?_
      | simp -dsimp [*]
      | refine And.intro ?_ ?_
      | intro h
      | done
    all_goals exact Midv.go _ (Sub.refl _) ⟨⟨_, _, _, _, _, _⟩, rt_heap _ _ _ _ _ _ _ _, by simp -dsimp [k1], by simp -dsimp [k3], by simp -dsimp [k4], by simp -dsimp [k5], by simp -dsimp [k12], by simp -dsimp [k13], by simp -dsimp, by simp -dsimp⟩
  rintro fr σ ⟨y, rfl, k1, k3, k4, k5, k12, k13, k14, k16⟩
  have q1 := Int.emod_nonneg q (b := 2) (by omega)
  have q2 := Int.emod_lt_of_pos q (b := 2) (by omega)
  obtain ⟨n, hn⟩ : ∃ n : Nat, 200 + q % 2 = n := ⟨(200 + q % 2).toNat, by omega⟩
  have hw := w64 (n := 200 + q % 2) (by omega) (by omega)
  rw [hn] at hw
  have hm : (n : Int) ≤ maxLen := by simp [maxLen]; omega
  have hx : max (n : Int) 0 = n := by omega
  repeat' first
    | refine WC.on mixed rfl ?_
    | (refine new_block fun b hb => ?_; try simp at hb)
    | refine call_pure (mod25 _ _ (by omega) (by omega)) ?_
    | simp -dsimp [k1, k3, k4, k5, k12, k13, k14, k16, hn, hw, hm, hx]
    | simp -dsimp (disch := omega) only [w64]
    | refine And.intro (by omega) ?_
    | simp -dsimp [*]
    | refine And.intro ?_ ?_
    | intro h
    | done
  obtain ⟨b17, hb17⟩ : ∃ b17, b17 = b := ⟨b, rfl⟩
  subst hb17
  refine WC.loop (fun m fr σ => ∃ (i : Nat) (L : List Db), i ≤ n ∧ m = n - i ∧ L.length = n ∧ σ = [(⟨b17, 5, n * 5⟩, L.map Db.lv), (⟨b16, 6, 6⟩, [y.lv]), (⟨b12, 6, 6⟩, [x.lv]), (⟨b5, 6, 6⟩, [raw.lv])] ∧ fr 1 = .ro 5 (rl.map Db.lv) ∧ fr 3 = I p ∧ fr 4 = I q ∧ fr 5 = .ref ⟨b5, 6, 6⟩ 0 0 ∧ fr 12 = .ref ⟨b12, 6, 6⟩ 0 0 ∧ fr 13 = .ro 5 (l1.map Db.lv) ∧ fr 14 = .ro 5 (bad.map Db.lv) ∧ fr 16 = .ref ⟨b16, 6, 6⟩ 0 0 ∧ fr 17 = .msl ⟨b17, 5, n * 5⟩ 0 n ∧ fr 106 = .msl ⟨b17, 5, n * 5⟩ 0 n ∧ fr 107 = I n ∧ fr 108 = I i) n
    ⟨0, List.replicate n ⟨0, 0, false, 0, 0⟩, by omega, rfl, by simp, by rw [List.map_replicate]; rfl, by simp -dsimp [k1, k3, k4, k5, k12, k13, k14, k16]⟩ ?_
  rintro m fr σ ⟨i, L, hi, rfl, hL, rfl, k1, k3, k4, k5, k12, k13, k14, k16, k17, k106, k107, k108⟩
  by_cases hlt : i < n
  · have hlt' : (i : Int) < n := by omega
    have hiL : i < L.length := by omega
    have hw4 := w64 (n := (i : Int) * 400) (by omega) (by omega)
    repeat' first
      | refine WC.on mixed rfl ?_
      | (refine new_block fun b hb => ?_; try simp at hb)
      | simp -dsimp [k1, k3, k4, k5, k12, k13, k14, k16, k17, k106, k107, k108, hlt, hiL, hw4]
      | simp -dsimp (disch := omega) only [w64]
      | refine And.intro (by omega) ?_
      | simp -dsimp [*]
      | refine And.intro ?_ ?_
      | intro h
      | done
    all_goals
      refine Round.go (n - (i + 1)) _ (by omega) (Sub.refl _) ⟨i + 1, L.set i ⟨_, _, _, _, _⟩, by omega, rfl, by rw [List.length_set]; exact hL, by rw [← db_set]; rfl, by simp -dsimp [k1, k3, k4, k5, k12, k13, k14, k16, k17, k106, k107, k108]⟩
  have hin : i = n := by omega
  subst hin
  refine WC.view 17 (y := .ro 5 (L.map Db.lv)) (τ := [(⟨b16, 6, 6⟩, [y.lv]), (⟨b12, 6, 6⟩, [x.lv]), (⟨b5, 6, 6⟩, [raw.lv])]) (by rw [k17]; exact View.lit rfl (by simp [hL]) (Db.ones _) (Sub.refl _)) ?_
  clear k17
  repeat' first
    | refine WC.on mixed rfl ?_
    | (refine new_block fun b hb => ?_; try simp at hb)
    | simp -dsimp [k1, k3, k4, k5, k12, k13, k14, k16, k106, k107, k108]
    | simp -dsimp (disch := omega) only [w64]
    | refine And.intro (by omega) ?_
    | simp -dsimp [*]
    | refine And.intro ?_ ?_
    | intro h
    | done
  obtain ⟨bs, hbs⟩ : ∃ bs, bs = b := ⟨b, rfl⟩
  subst hbs
  refine WC.drop (τ := [(⟨bs, 6, 18⟩, [x.lv, y.lv, raw.lv])]) (Sub.cons _ (Sub.nil _)) ?_
  refine WC.loop (fun m fr σ => ∃ j : Nat, j ≤ 3 ∧ m = 3 - j ∧ σ = [(⟨bs, 6, 18⟩, [x.lv, y.lv, raw.lv])] ∧ fr 1 = .ro 5 (rl.map Db.lv) ∧ fr 4 = I q ∧ fr 13 = .ro 5 (l1.map Db.lv) ∧ fr 14 = .ro 5 (bad.map Db.lv) ∧ fr 17 = .ro 5 (L.map Db.lv) ∧ fr 121 = .msl ⟨bs, 6, 18⟩ 0 3 ∧ fr 122 = I 3 ∧ fr 123 = I j) 3
    ⟨0, by omega, rfl, rfl, by simp -dsimp [k1, k3, k4, k5, k12, k13, k14, k16, k106, k107, k108]⟩ ?_
  rintro m fr σ ⟨j, hj, rfl, rfl, k1, k4, k13, k14, k17, k121, k122, k123⟩
  by_cases hlt : j < 3
  · have hlt' : (j : Int) < 3 := by omega
    refine WC.on mixed rfl ?_
    repeat' first
      | (refine new_block fun b hb => ?_; try simp at hb)
      | simp -dsimp [k1, k4, k13, k14, k17, k121, k122, k123, hlt']
      | simp -dsimp (disch := omega) only [w64]
      | refine And.intro (by omega) ?_
      | refine And.intro ?_ ?_
      | intro h
      | done
    refine WC.on mixed rfl ?_
    repeat' first
      | (refine new_block fun b hb => ?_; try simp at hb)
      | simp -dsimp [k1, k4, k13, k14, k17, k121, k122, k123, hlt']
      | simp -dsimp (disch := omega) only [w64]
      | refine And.intro (by omega) ?_
      | refine And.intro ?_ ?_
      | intro h
      | done
    refine WC.on mixed rfl ?_
    repeat' first
      | (refine new_block fun b hb => ?_; try simp at hb)
      | simp -dsimp [k1, k4, k13, k14, k17, k121, k122, k123, hlt']
      | simp -dsimp (disch := omega) only [w64]
      | refine And.intro (by omega) ?_
      | refine And.intro ?_ ?_
      | intro h
      | done
    refine WC.seq ?_
    refine WC.block ?_
    refine WC.cutv (fun fr σ => ∃ (z : Rt) (b20 : Nat), σ = [(⟨b20, 6, 6⟩, [z.lv]), (⟨bs, 6, 18⟩, [x.lv, y.lv, raw.lv])] ∧ fr 1 = .ro 5 (rl.map Db.lv) ∧ fr 4 = I q ∧ fr 13 = .ro 5 (l1.map Db.lv) ∧ fr 14 = .ro 5 (bad.map Db.lv) ∧ fr 17 = .ro 5 (L.map Db.lv) ∧ fr 20 = .ref ⟨b20, 6, 6⟩ 0 0 ∧ fr 121 = .msl ⟨bs, 6, 18⟩ 0 3 ∧ fr 122 = I 3 ∧ fr 123 = I j) ?_ ?_
    · obtain rfl | rfl | rfl : j = 0 ∨ j = 1 ∨ j = 2 := by omega
      · skip
        repeat' first
          | refine WC.on mixed rfl ?_
          | (refine new_block fun b hb => ?_; try simp at hb)
          | simp -dsimp [k1, k4, k13, k14, k17, k121, k122, k123, hlt']
          | simp -dsimp (disch := omega) only [w64]
          | refine And.intro (by omega) ?_
          | refine And.intro ?_ ?_
          | intro h
          | done
        all_goals exact Midv.go _ (Sub.refl _) ⟨x, _, rfl, by simp -dsimp [k1], by simp -dsimp [k4], by simp -dsimp [k13], by simp -dsimp [k14], by simp -dsimp [k17], by simp -dsimp, by simp -dsimp [k121], by simp -dsimp [k122], by simp -dsimp [k123]⟩
      · skip
        repeat' first
          | refine WC.on mixed rfl ?_
          | (refine new_block fun b hb => ?_; try simp at hb)
          | simp -dsimp [k1, k4, k13, k14, k17, k121, k122, k123, hlt']
          | simp -dsimp (disch := omega) only [w64]
          | refine And.intro (by omega) ?_
          | refine And.intro ?_ ?_
          | intro h
          | done
        all_goals exact Midv.go _ (Sub.refl _) ⟨y, _, rfl, by simp -dsimp [k1], by simp -dsimp [k4], by simp -dsimp [k13], by simp -dsimp [k14], by simp -dsimp [k17], by simp -dsimp, by simp -dsimp [k121], by simp -dsimp [k122], by simp -dsimp [k123]⟩
      · skip
        repeat' first
          | refine WC.on mixed rfl ?_
          | (refine new_block fun b hb => ?_; try simp at hb)
          | simp -dsimp [k1, k4, k13, k14, k17, k121, k122, k123, hlt']
          | simp -dsimp (disch := omega) only [w64]
          | refine And.intro (by omega) ?_
          | refine And.intro ?_ ?_
          | intro h
          | done
        all_goals exact Midv.go _ (Sub.refl _) ⟨raw, _, rfl, by simp -dsimp [k1], by simp -dsimp [k4], by simp -dsimp [k13], by simp -dsimp [k14], by simp -dsimp [k17], by simp -dsimp, by simp -dsimp [k121], by simp -dsimp [k122], by simp -dsimp [k123]⟩
    rintro fr σ ⟨z, b20, rfl, k1, k4, k13, k14, k17, k20, k121, k122, k123⟩
    repeat' first
      | refine WC.on mixed rfl ?_
      | (refine new_block fun b hb => ?_; try simp at hb)
      | refine draw_plan 37 [] [(0, 1), (2, 1), (1, 2), (3, 2), (4, 0)] (by kernel_rfl) rfl ?_
      | refine plan_nil ?_
      | refine plan_none rfl (by simp) ?_
      | refine plan_some rfl rfl (by simp) ?_
      | refine call_pure (valid26 _) ?_
      | refine call_pure (valid27r _) ?_
      | simp -dsimp [k1, k4, k13, k14, k17, k20, k121, k122, k123]
      | simp -dsimp (disch := omega) only [w64]
      | refine And.intro (by omega) ?_
      | refine And.intro ?_ ?_
      | intro h
      | done
    obtain ⟨b46, hb46⟩ : ∃ b46, b46 = b := ⟨b, rfl⟩
    subst hb46
    refine WC.loop (fun m fr σ => ∃ g : Nat, g ≤ 4 ∧ m = 4 - g ∧ σ = [(⟨b46, 1, 4⟩, [.ro 5 (l1.map Db.lv), .ro 5 (bad.map Db.lv), .ro 5 (rl.map Db.lv), .ro 5 (L.map Db.lv)]), (⟨b20, 6, 6⟩, [z.lv]), (⟨bs, 6, 18⟩, [x.lv, y.lv, raw.lv])] ∧ fr 1 = .ro 5 (rl.map Db.lv) ∧ fr 4 = I q ∧ fr 13 = .ro 5 (l1.map Db.lv) ∧ fr 14 = .ro 5 (bad.map Db.lv) ∧ fr 17 = .ro 5 (L.map Db.lv) ∧ fr 20 = .ref ⟨b20, 6, 6⟩ 0 0 ∧ fr 121 = .msl ⟨bs, 6, 18⟩ 0 3 ∧ fr 122 = I 3 ∧ fr 123 = I j ∧ fr 136 = .msl ⟨b46, 1, 4⟩ 0 4 ∧ fr 137 = I 4 ∧ fr 138 = I g) 4
      ⟨0, by omega, rfl, rfl, by simp -dsimp [k1, k4, k13, k14, k17, k20, k121, k122, k123]⟩ ?_
    rintro m fr σ ⟨g, hg, rfl, rfl, k1, k4, k13, k14, k17, k20, k121, k122, k123, k136, k137, k138⟩
    by_cases hgl : g < 4
    · have hgl' : (g : Int) < 4 := by omega
      refine WC.on mixed rfl ?_
      repeat' first
        | (refine new_block fun b hb => ?_; try simp at hb)
        | simp -dsimp [k1, k4, k13, k14, k17, k20, k121, k122, k123, k136, k137, k138, hgl']
        | simp -dsimp (disch := omega) only [w64]
        | refine And.intro (by omega) ?_
        | refine And.intro ?_ ?_
        | intro h
        | done
      refine WC.on mixed rfl ?_
      repeat' first
        | (refine new_block fun b hb => ?_; try simp at hb)
        | simp -dsimp [k1, k4, k13, k14, k17, k20, k121, k122, k123, k136, k137, k138, hgl']
        | simp -dsimp (disch := omega) only [w64]
        | refine And.intro (by omega) ?_
        | refine And.intro ?_ ?_
        | intro h
        | done
      refine WC.on mixed rfl ?_
      repeat' first
        | (refine new_block fun b hb => ?_; try simp at hb)
        | simp -dsimp [k1, k4, k13, k14, k17, k20, k121, k122, k123, k136, k137, k138, hgl']
        | simp -dsimp (disch := omega) only [w64]
        | refine And.intro (by omega) ?_
        | refine And.intro ?_ ?_
        | intro h
        | done
      refine WC.seq ?_
      refine WC.block ?_
      refine WC.cutv (fun fr σ => ∃ M : List Db, M.length ≤ 16777216 ∧ σ = [(⟨b46, 1, 4⟩, [.ro 5 (l1.map Db.lv), .ro 5 (bad.map Db.lv), .ro 5 (rl.map Db.lv), .ro 5 (L.map Db.lv)]), (⟨b20, 6, 6⟩, [z.lv]), (⟨bs, 6, 18⟩, [x.lv, y.lv, raw.lv])] ∧ fr 1 = .ro 5 (rl.map Db.lv) ∧ fr 4 = I q ∧ fr 13 = .ro 5 (l1.map Db.lv) ∧ fr 14 = .ro 5 (bad.map Db.lv) ∧ fr 17 = .ro 5 (L.map Db.lv) ∧ fr 20 = .ref ⟨b20, 6, 6⟩ 0 0 ∧ fr 121 = .msl ⟨bs, 6, 18⟩ 0 3 ∧ fr 122 = I 3 ∧ fr 123 = I j ∧ fr 136 = .msl ⟨b46, 1, 4⟩ 0 4 ∧ fr 137 = I 4 ∧ fr 138 = I g ∧ fr 22 = .ro 5 (M.map Db.lv)) ?_ ?_
      · obtain rfl | rfl | rfl | rfl : g = 0 ∨ g = 1 ∨ g = 2 ∨ g = 3 := by omega
        · skip
          repeat' first
            | refine WC.on mixed rfl ?_
            | (refine new_block fun b hb => ?_; try simp at hb)
            | simp -dsimp [k1, k4, k13, k14, k17, k20, k121, k122, k123, k136, k137, k138, hgl']
            | simp -dsimp (disch := omega) only [w64]
            | refine And.intro (by omega) ?_
            | refine And.intro ?_ ?_
            | intro h
            | done
          all_goals exact Midv.go _ (Sub.refl _) ⟨l1, (by have := hd1.1; omega), rfl, by simp -dsimp [k1], by simp -dsimp [k4], by simp -dsimp [k13], by simp -dsimp [k14], by simp -dsimp [k17], by simp -dsimp [k20], by simp -dsimp [k121], by simp -dsimp [k122], by simp -dsimp [k123], by simp -dsimp [k136], by simp -dsimp [k137], by simp -dsimp [k138], by simp -dsimp⟩
        · skip
          repeat' first
            | refine WC.on mixed rfl ?_
            | (refine new_block fun b hb => ?_; try simp at hb)
            | simp -dsimp [k1, k4, k13, k14, k17, k20, k121, k122, k123, k136, k137, k138, hgl']
            | simp -dsimp (disch := omega) only [w64]
            | refine And.intro (by omega) ?_
            | refine And.intro ?_ ?_
            | intro h
            | done
          all_goals exact Midv.go _ (Sub.refl _) ⟨bad, (by omega), rfl, by simp -dsimp [k1], by simp -dsimp [k4], by simp -dsimp [k13], by simp -dsimp [k14], by simp -dsimp [k17], by simp -dsimp [k20], by simp -dsimp [k121], by simp -dsimp [k122], by simp -dsimp [k123], by simp -dsimp [k136], by simp -dsimp [k137], by simp -dsimp [k138], by simp -dsimp⟩
        · skip
          repeat' first
            | refine WC.on mixed rfl ?_
            | (refine new_block fun b hb => ?_; try simp at hb)
            | simp -dsimp [k1, k4, k13, k14, k17, k20, k121, k122, k123, k136, k137, k138, hgl']
            | simp -dsimp (disch := omega) only [w64]
            | refine And.intro (by omega) ?_
            | refine And.intro ?_ ?_
            | intro h
            | done
          all_goals exact Midv.go _ (Sub.refl _) ⟨rl, (by omega), rfl, by simp -dsimp [k1], by simp -dsimp [k4], by simp -dsimp [k13], by simp -dsimp [k14], by simp -dsimp [k17], by simp -dsimp [k20], by simp -dsimp [k121], by simp -dsimp [k122], by simp -dsimp [k123], by simp -dsimp [k136], by simp -dsimp [k137], by simp -dsimp [k138], by simp -dsimp⟩
        · skip
          repeat' first
            | refine WC.on mixed rfl ?_
            | (refine new_block fun b hb => ?_; try simp at hb)
            | simp -dsimp [k1, k4, k13, k14, k17, k20, k121, k122, k123, k136, k137, k138, hgl']
            | simp -dsimp (disch := omega) only [w64]
            | refine And.intro (by omega) ?_
            | refine And.intro ?_ ?_
            | intro h
            | done
          all_goals exact Midv.go _ (Sub.refl _) ⟨L, (by omega), rfl, by simp -dsimp [k1], by simp -dsimp [k4], by simp -dsimp [k13], by simp -dsimp [k14], by simp -dsimp [k17], by simp -dsimp [k20], by simp -dsimp [k121], by simp -dsimp [k122], by simp -dsimp [k123], by simp -dsimp [k136], by simp -dsimp [k137], by simp -dsimp [k138], by simp -dsimp⟩
      rintro fr σ ⟨M, hM, rfl, k1, k4, k13, k14, k17, k20, k121, k122, k123, k136, k137, k138, k22⟩
      repeat' first
        | refine WC.on mixed rfl ?_
        | (refine new_block fun b hb => ?_; try simp at hb)
        | refine draw_plan 42 [] [(1, 0), (4, 0), (0, 1), (3, 1), (2, 2), (5, 2), (6, 0), (7, 0), (8, 0), (9, 0), (12, 0), (13, 0), (14, 0), (16, 0), (17, 0), (20, 0), (21, 0), (22, 0), (10, 2), (11, 0), (15, 2), (18, 2), (19, 0), (23, 2), (24, 0), (25, 0)] (by kernel_rfl) rfl ?_
        | refine plan_nil ?_
        | refine plan_none rfl (by simp) ?_
        | refine plan_some rfl rfl (by simp) ?_
        | refine call_pure (check28 _ _ hM) ?_
        | refine call_pure (check29 _ _ hM) ?_
        | refine call_pure (mod25 _ _ (by omega) (by omega)) ?_
        | refine call_pure (count30 M _ _ _ (by omega)) ?_
        | refine call_pure (count31 M _ _ _ (by omega)) ?_
        | simp -dsimp [k1, k4, k13, k14, k17, k20, k121, k122, k123, k136, k137, k138, k22]
        | simp -dsimp (disch := omega) only [w64]
        | refine And.intro (by omega) ?_
        | refine And.intro ?_ ?_
        | intro h
        | done
      all_goals first
        | exact Round.go (4 - (g + 1)) _ (by omega) (Sub.refl _) ⟨g + 1, by omega, rfl, rfl, by simp -dsimp [k1, k4, k13, k14, k17, k20, k121, k122, k123, k136, k137, k138]⟩
        | trace_state
    · have hg4 : ¬ (g : Int) < 4 := by omega
      repeat' first
        | refine WC.on mixed rfl ?_
        | (refine new_block fun b hb => ?_; try simp at hb)
        | simp -dsimp [k1, k4, k13, k14, k17, k20, k121, k122, k123, k136, k137, k138, hg4]
        | simp -dsimp (disch := omega) only [w64]
        | refine And.intro (by omega) ?_
        | refine And.intro ?_ ?_
        | intro h
        | done
      all_goals first
        | exact Round.go (3 - (j + 1)) _ (by omega) (Sub.skip _ (Sub.skip _ (Sub.refl _))) ⟨j + 1, by omega, rfl, rfl, by simp -dsimp [k1, k4, k13, k14, k17, k121, k122, k123]⟩
        | trace_state
  · have hj3 : ¬ (j : Int) < 3 := by omega
    repeat' first
      | refine WC.on mixed rfl ?_
      | (refine new_block fun b hb => ?_; try simp at hb)
      | refine call_pure awake22 ?_
      | simp -dsimp [k1, k4, k13, k14, k17, k121, k122, k123, hj3]
      | simp -dsimp (disch := omega) only [w64]
      | refine And.intro (by omega) ?_
      | refine And.intro ?_ ?_
      | intro h
      | done
    all_goals exact ⟨_, Sub.nil _⟩
end Go.Proofs.Ytjamehpnclkjdaa
