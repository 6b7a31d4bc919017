/- Releases of a time. It bears no statement of its own. -/
import Derived.Test.YtjamehpnclkjdaaS21
import Derived.Test.YtjamehpnclkjdaaLr
namespace Go.Proofs.Ytjamehpnclkjdaa
open Go Go.Ls
set_option linter.unusedVariables false
set_option linter.unusedSimpArgs false
set_option maxRecDepth 100000
attribute [local irreducible] Box drawF

def xsA (n : Nat) (l : List Rl) (f t : Int) (i : Nat) : List (List LV) := (List.range n).map fun (u : Nat) => (ats (l.take i) f t u).map I
theorem xsA_len {n : Nat} {l : List Rl} {f t : Int} {i : Nat} : (xsA n l f t i).length = n := by simp [xsA]
theorem xsA_get {n : Nat} {l : List Rl} {f t : Int} {i u : Nat} (h : u < (xsA n l f t i).length) : (xsA n l f t i)[u] = (ats (l.take i) f t u).map I := by simp [xsA]
theorem xsA_in {n : Nat} {l : List Rl} {f t : Int} {i u : Nat} (hi : i < l.length) (hin : inn f t l[i] = true) (hu : l[i].un = u) (hul : u < n) : xsA n l f t (i + 1) = (xsA n l f t i).set u ((ats (l.take i) f t u).map I ++ [I l[i].ti]) := by
  refine List.ext_getElem (by simp [xsA]) fun k h1 h2 => ?_
  rw [List.getElem_set, xsA_get, ats_succ l f t k hi, hin, hu]
  by_cases e : u = k
  · subst e
    simp
  · have : ¬ ((u : Int) = k) := by omega
    rw [if_neg e, xsA_get]
    simp [this]
theorem xsA_out {n : Nat} {l : List Rl} {f t : Int} {i : Nat} (hi : i < l.length) (hin : inn f t l[i] = false) : xsA n l f t (i + 1) = xsA n l f t i := by
  refine List.ext_getElem (by simp [xsA]) fun k h1 h2 => ?_
  rw [xsA_get, ats_succ l f t k hi, hin, xsA_get]
  simp

set_option maxHeartbeats 8000000 in
theorem releases20 (js : List Jb) (l : List Rl) (f t : Int) (hf : Fit js) (hv : validL js) (hl : l.length ≤ 1000) : Pure Try.prog 20 [.ro 7 (js.map Jb.lv), .ro 3 (l.map Rl.lv), I f, I t] (I (relV js l f t)) := by
  have hl0 := hf.1
  have hlen := hv.1
  have hmx : js.length ≤ maxLen := by unfold maxLen; omega
  refine lcalls_go (rts := [.tmp 8]) Try.func20 rfl rfl rfl rfl rfl ?_
  refine WC.on mixed rfl ?_
  repeat' first
    | (refine new_block fun b hb => ?_; try simp at hb)
    | simp -dsimp [hmx]
    | simp -dsimp (disch := omega) only [w64]
    | refine And.intro (by omega) ?_
    | simp -dsimp [*]
    | refine And.intro ?_ ?_
    | intro h
    | done
  refine WC.on mixed rfl ?_
  repeat' first
    | (refine new_block fun b hb => ?_; try simp at hb)
    | simp -dsimp [hmx]
    | simp -dsimp (disch := omega) only [w64]
    | refine And.intro (by omega) ?_
    | simp -dsimp [*]
    | refine And.intro ?_ ?_
    | intro h
    | done
  obtain ⟨U, hU⟩ : ∃ U, U = b := ⟨b, rfl⟩
  subst hU
  repeat' first
    | refine WC.on mixed rfl ?_
    | (refine new_block fun b hb => ?_; try simp at hb)
    | simp -dsimp []
    | simp -dsimp (disch := omega) only [w64]
    | refine And.intro (by omega) ?_
    | simp -dsimp [*]
    | refine And.intro ?_ ?_
    | intro h
    | done
  refine WC.loop (fun m fr σ => ∃ (i : Nat) (vs : List LV) (ρ : Heap), i ≤ l.length ∧ m = l.length - i ∧ OwnsA vs (xsA js.length l f t i) ρ [] ∧ (∀ q (hq : q < l.length), q < i → okR js.length f t (prevR l q) l[q]) ∧ σ = (⟨U, 1, js.length⟩, vs) :: ρ ∧ fr 0 = .ro 7 (js.map Jb.lv) ∧ fr 2 = I f ∧ fr 3 = I t ∧ fr 9 = .msl ⟨U, 1, js.length⟩ 0 js.length ∧ fr 10 = I (prevR l i) ∧ fr 21 = .ro 3 (l.map Rl.lv) ∧ fr 22 = I l.length ∧ fr 23 = I i) l.length
    ⟨0, List.replicate js.length (.val (.slice none 0 0)), [], by omega, by omega, ?_, by simp, by simp, by simp -dsimp [prevR]⟩ ?_
  · have := OwnsA.none js.length []
    have e : xsA js.length l f t 0 = List.replicate js.length [] := by
      refine List.ext_getElem (by simp [xsA]) fun k h1 h2 => ?_
      rw [xsA_get]
      simp [ats]
    rw [e]
    exact this
  rintro m fr σ ⟨i, vs, ρ, hi, rfl, hown, hbe, rfl, k0, k2, k3, k9, k10, k21, k22, k23⟩
  refine WC.on mixed rfl ?_
  simp -dsimp [k0, k2, k3, k9, k10, k21, k22, k23]
  refine WC.on mixed rfl ?_
  simp -dsimp
  refine ⟨fun hlt => ?_, fun hge => ?_⟩
  · have hp := prevR_succ l hlt
    have hno : ¬ okR js.length f t (prevR l i) l[i] → relV js l f t = 10 := fun h => if_neg fun h' => h (h' i hlt)
    have hstep : okR js.length f t (prevR l i) l[i] → ∀ q (hq : q < l.length), q < i + 1 → okR js.length f t (prevR l q) l[q] := fun h q hq hqi => by
      by_cases e : q = i
      · subst e; exact h
      · exact hbe q hq (by omega)
    by_cases hok : okR js.length f t (prevR l i) l[i]
    rotate_left
    · have h10 := hno hok
      rw [h10]
      have hok' : ¬ (prevR l i ≤ l[i].ti ∧ l[i].ti ≤ 16777216 ∧ (f ≤ l[i].ti ∧ l[i].ti < t → 0 ≤ l[i].un ∧ l[i].un < js.length)) := by simpa [okR, inn] using hok
      repeat' first
        | refine WC.on mixed rfl ?_
        | (refine new_block fun b hb => ?_; try simp at hb)
        | simp -dsimp [k0, k2, k3, k9, k10, k21, k22, k23, hlt]
        | simp -dsimp (disch := omega) only [w64]
        | refine And.intro (by omega) ?_
        | simp -dsimp [*]
        | refine And.intro ?_ ?_
        | intro h
        | done
      all_goals (exfalso; omega)
    have hst := hstep hok
    obtain ⟨o1, o2, o3⟩ := hok
    have d1 : ¬ l[i].ti < prevR l i := by omega
    have d2 : ¬ 16777216 < l[i].ti := by omega
    cases hin : inn f t l[i]
    · have hx := xsA_out (n := js.length) hlt hin
      have hin' : ¬ (f ≤ l[i].ti ∧ l[i].ti < t) := by simpa [inn] using hin
      repeat' first
        | refine WC.on mixed rfl ?_
        | (refine new_block fun b hb => ?_; try simp at hb)
        | simp -dsimp [k0, k2, k3, k9, k10, k21, k22, k23, hlt, d1, d2]
        | simp -dsimp (disch := omega) only [w64]
        | refine And.intro (by omega) ?_
        | simp -dsimp [*]
        | refine And.intro ?_ ?_
        | intro h
        | done
      all_goals first
        | (exfalso; omega)
        | exact Round.go (l.length - (i + 1)) ((⟨U, 1, js.length⟩, vs) :: ρ) (by omega) (Sub.skip _ (Sub.refl _)) ⟨i + 1, vs, ρ, by omega, rfl, by rw [hx]; exact hown, hst, rfl, by simp -dsimp [hp, k0, k2, k3, k9, k21, k22]⟩
    · obtain ⟨o3, o4⟩ := o3 hin
      obtain ⟨u, hu⟩ := Int.eq_ofNat_of_zero_le o3
      have hul : u < js.length := by omega
      have hx := xsA_in (n := js.length) hlt hin hu hul
      have hin' : f ≤ l[i].ti ∧ l[i].ti < t := by simpa [inn] using hin
      obtain ⟨d3, d4⟩ := hin'
      have d5 : ¬ js.length ≤ u := by omega
      have hvl : vs.length = js.length := by rw [hown.length, xsA_len]
      have huv : u < vs.length := by omega
      obtain ⟨ρ1, hw, hput⟩ := hown.at' huv (by rw [xsA_len]; exact hul)
      rw [xsA_get] at hw
      refine WC.on mixed rfl ?_
      repeat' first
        | (refine new_block fun b hb => ?_; try simp at hb)
        | simp -dsimp [k0, k2, k3, k9, k10, k21, k22, k23, hlt, d1, d2, d3, d4, d5, hu]
        | simp -dsimp (disch := omega) only [w64]
        | refine And.intro (by omega) ?_
        | simp -dsimp [*]
        | refine And.intro ?_ ?_
        | intro h
        | done
      refine WC.on mixed rfl ?_
      repeat' first
        | (refine new_block fun b hb => ?_; try simp at hb)
        | simp -dsimp [k0, k2, k3, k9, k10, k21, k22, k23, hlt, d1, d2, d3, d4, d5, hu]
        | simp -dsimp (disch := omega) only [w64]
        | refine And.intro (by omega) ?_
        | simp -dsimp [*]
        | refine And.intro ?_ ?_
        | intro h
        | done
      refine WC.on mixed rfl ?_
      repeat' first
        | (refine new_block fun b hb => ?_; try simp at hb)
        | simp -dsimp [k0, k2, k3, k9, k10, k21, k22, k23, hlt, d1, d2, d3, d4, d5, hu]
        | simp -dsimp (disch := omega) only [w64]
        | refine And.intro (by omega) ?_
        | simp -dsimp [*]
        | refine And.intro ?_ ?_
        | intro h
        | done
      refine WC.on mixed rfl ?_
      repeat' first
        | (refine new_block fun b hb => ?_; try simp at hb)
        | simp -dsimp [k0, k2, k3, k9, k10, k21, k22, k23, hlt, d1, d2, d3, d4, d5, hu]
        | simp -dsimp (disch := omega) only [w64]
        | refine And.intro (by omega) ?_
        | simp -dsimp [*]
        | refine And.intro ?_ ?_
        | intro h
        | done
      refine WC.on mixed rfl ?_
      repeat' first
        | (refine new_block fun b hb => ?_; try simp at hb)
        | simp -dsimp [k0, k2, k3, k9, k10, k21, k22, k23, hlt, d1, d2, d3, d4, d5, hu]
        | simp -dsimp (disch := omega) only [w64]
        | refine And.intro (by omega) ?_
        | simp -dsimp [*]
        | refine And.intro ?_ ?_
        | intro h
        | done
      refine WC.on mixed rfl ?_
      repeat' first
        | (refine new_block fun b hb => ?_; try simp at hb)
        | simp -dsimp [k0, k2, k3, k9, k10, k21, k22, k23, hlt, d1, d2, d3, d4, d5, hu]
        | simp -dsimp (disch := omega) only [w64]
        | refine And.intro (by omega) ?_
        | simp -dsimp [*]
        | refine And.intro ?_ ?_
        | intro h
        | done
      refine WC.on mixed rfl ?_
      repeat' first
        | (refine new_block fun b hb => ?_; try simp at hb)
        | simp -dsimp [k0, k2, k3, k9, k10, k21, k22, k23, hlt, d1, d2, d3, d4, d5, hu]
        | simp -dsimp (disch := omega) only [w64]
        | refine And.intro (by omega) ?_
        | simp -dsimp [*]
        | refine And.intro ?_ ?_
        | intro h
        | done
      refine WC.on mixed rfl ?_
      repeat' first
        | (refine new_block fun b hb => ?_; try simp at hb)
        | simp -dsimp [k0, k2, k3, k9, k10, k21, k22, k23, hlt, d1, d2, d3, d4, d5, hu]
        | simp -dsimp (disch := omega) only [w64]
        | refine And.intro (by omega) ?_
        | simp -dsimp [*]
        | refine And.intro ?_ ?_
        | intro h
        | done
      obtain ⟨b3, hb3⟩ : ∃ b3, b3 = b := ⟨b, rfl⟩
      subst hb3
      have hal := ats_len (l.take i) f t u
      rw [List.length_take] at hal
      have hvu : vs[u]? = some vs[u] := List.getElem?_eq_getElem huv
      rcases hw with ⟨hw1, hw2, hw3⟩ | ⟨⟨c, sz, room⟩, hw0, hw1, hw3⟩
      · have hw2' : (ats (l.take i) f t u).map I = [] := hw2
        refine WC.drop (τ := (⟨b3, 3, 3⟩, [.agg [I u, I l[i].ti, .val (.slice none 0 0)]]) :: (⟨U, 1, js.length⟩, vs) :: ρ1) (Sub.cons _ (Sub.cons _ (Sub.of_perm hw3))) ?_
        refine WC.nodup fun hnd => ?_
        simp at hnd
        repeat' first
          | refine WC.on mixed rfl ?_
          | (refine new_block fun b hb => ?_; try simp at hb)
          | refine draw_plan 11 [] [(0, 0), (1, 0), (3, 0), (4, 0), (8, 0), (2, 1), (5, 1), (6, 0), (7, 1), (9, 1), (10, 2), (11, 2), (12, 0), (13, 3)] (by kernel_rfl) rfl ?_
          | refine plan_nil ?_
          | refine plan_none rfl (by simp) ?_
          | refine plan_some rfl rfl (by simp) ?_
          | (refine app_litn [] (_ :: _ :: ρ1) ty_sl22 rfl rfl (Own.none _ _) (Sub.refl _) (fun _ _ e => by cases e) (by simp [maxLen]) (by simp) (by simp) fun b2 room2 hfr => ?_; simp at hfr; obtain ⟨hf1, hf2, hf3⟩ := hfr)
          | simp -dsimp [k0, k2, k3, k9, k10, k21, k22, k23, hlt, d3, d4, d5, hu, hvu, hw1, hvl, hul]
          | simp -dsimp (disch := omega) only [w64]
          | refine And.intro (by omega) ?_
          | simp -dsimp [*]
          | refine And.intro ?_ ?_
          | intro h
          | done
        all_goals exact Round.go (l.length - (i + 1)) ((⟨U, 1, js.length⟩, vs.set u (.msl ⟨b2, 1, room2⟩ 0 1)) :: (⟨b2, 1, room2⟩, [I l[i].ti]) :: ρ1) (by omega) (Sub.pick [_, _] (Sub.cons _ (Sub.skip _ (Sub.refl _)))) ⟨i + 1, vs.set u (.msl ⟨b2, 1, room2⟩ 0 1), (⟨b2, 1, room2⟩, [I l[i].ti]) :: ρ1, by omega, rfl, by rw [hx, hw2']; exact hput _ _ _ (Own.blk rfl), hst, rfl, by simp -dsimp [hp, k0, k2, k3, k9, k21, k22]⟩
      · simp only at hw0
        subst hw0
        refine WC.drop (τ := (⟨b3, 3, 3⟩, [.agg [I u, I l[i].ti, .val (.slice none 0 0)]]) :: (⟨U, 1, js.length⟩, vs) :: (⟨c, 1, room⟩, (ats (l.take i) f t u).map I) :: ρ1) (Sub.cons _ (Sub.cons _ (Sub.of_perm hw3))) ?_
        refine WC.nodup fun hnd => ?_
        simp at hnd
        repeat' first
          | refine WC.on mixed rfl ?_
          | (refine new_block fun b hb => ?_; try simp at hb)
          | refine draw_plan 11 [c] [(0, 0), (1, 0), (3, 0), (4, 0), (8, 0), (2, 1), (5, 1), (6, 0), (7, 1), (9, 1), (10, 2), (11, 2), (12, 0), (13, 3)] (by kernel_rfl) rfl ?_
          | refine plan_nil ?_
          | refine plan_none rfl (by simp) ?_
          | refine plan_some rfl rfl (by simp) ?_
          | (refine app_litn ((ats (l.take i) f t u).map I) (_ :: _ :: ρ1) ty_sl22 rfl rfl ((Own.blk (by simp)).perm (List.perm_middle (l₁ := [_, _]))) (Sub.refl _) (fun _ _ e => by cases e; exact .inl (by simp)) (by simp [maxLen]; omega) (by simp; omega) (by simp) fun b2 room2 hfr => ?_; simp at hfr; obtain ⟨hf1, hf2, hf3⟩ := hfr)
          | simp -dsimp [k0, k2, k3, k9, k10, k21, k22, k23, hlt, d3, d4, d5, hu, hvu, hw1, hvl, hul]
          | simp -dsimp (disch := omega) only [w64]
          | refine And.intro (by omega) ?_
          | simp -dsimp [*]
          | refine And.intro ?_ ?_
          | intro h
          | done
        all_goals exact Round.go (l.length - (i + 1)) ((⟨U, 1, js.length⟩, vs.set u (.msl ⟨b2, 1, room2⟩ 0 ((ats (l.take i) f t u).length + 1))) :: (⟨b2, 1, room2⟩, (ats (l.take i) f t u).map I ++ [I l[i].ti]) :: ρ1) (by omega) (Sub.pick [_, _] (Sub.cons _ (Sub.skip _ (Sub.refl _)))) ⟨i + 1, vs.set u (.msl ⟨b2, 1, room2⟩ 0 ((ats (l.take i) f t u).length + 1)), (⟨b2, 1, room2⟩, (ats (l.take i) f t u).map I ++ [I l[i].ti]) :: ρ1, by omega, rfl, by rw [hx]; exact hput _ _ _ (Own.blk (by simp)), hst, rfl, by simp -dsimp [hp, k0, k2, k3, k9, k21, k22]⟩
  have e : i = l.length := by omega
  subst e
  have hform : formR js.length l f t := fun q hq => hbe q hq (by omega)
  have hrel : relV js l f t = if gaps js l f t then 0 else 39 := if_pos hform
  rw [hrel]
  have hvl : vs.length = js.length := by rw [hown.length, xsA_len]
  have hview : View ((⟨U, 1, js.length⟩, vs) :: ρ) [] (.msl ⟨U, 1, js.length⟩ 0 js.length) (.ro 1 ((List.range js.length).map fun (u : Nat) => .ro 1 ((ats l f t u).map I))) := by
    have := View.msl (B := ⟨U, 1, js.length⟩) (xs := vs) (ys := (List.range js.length).map fun (u : Nat) => LV.ro 1 ((ats l f t u).map I)) (τ := []) (σ := (⟨U, 1, js.length⟩, vs) :: ρ) (Sub.cons _ (Sub.nil _)) (by simp [hvl]) fun u x y hx hy => by
      have hu : u < vs.length := (List.getElem?_eq_some_iff.1 hx).1
      have hx' : vs[u] = x := (List.getElem?_eq_some_iff.1 hx).2
      have hul : u < js.length := by omega
      simp [hul] at hy
      subst hy
      obtain ⟨o1, o2⟩ := hown.one hu
      rw [hx'] at o1 o2
      have hv0 := hown.view hu (by rw [xsA_len]; exact hul) (by rw [xsA_get]; intro x hx; obtain ⟨z, _, rfl⟩ := List.mem_map.1 hx; rfl)
      rw [xsA_get, List.take_length, hx'] at hv0
      refine ⟨by rw [o1]; rfl, fun j c d hc hd => ?_⟩
      rw [o1] at hc
      cases j with
      | succ j => simp at hc
      | zero =>
        simp [LV.cells] at hc hd
        subst hc
        subst hd
        exact ⟨rfl, (View.of_sub (Sub.skip _ (Sub.refl ρ))).trans hv0⟩
    rw [hvl] at this
    exact this
  refine WC.on mixed rfl ?_
  simp -dsimp
  refine WC.view 9 (y := .ro 1 ((List.range js.length).map fun (u : Nat) => .ro 1 ((ats l f t u).map I))) (τ := []) (by simp -dsimp [k9]; exact hview) ?_
  clear hview hown k9 hvl
  repeat' first
    | refine WC.on mixed rfl ?_
    | (refine new_block fun b hb => ?_; try simp at hb)
    | simp -dsimp [k0, k2, k3]
    | simp -dsimp (disch := omega) only [w64]
    | refine And.intro (by omega) ?_
    | simp -dsimp [*]
    | refine And.intro ?_ ?_
    | intro h
    | done
  refine WC.loop (fun m fr σ => ∃ k : Nat, k ≤ js.length ∧ m = js.length - k ∧ σ = [] ∧ (∀ u (hu : u < js.length), u < k → gap js[u].pe js[u].ji (ats l f t u)) ∧ fr 0 = .ro 7 (js.map Jb.lv) ∧ fr 78 = .ro 1 ((List.range js.length).map fun (u : Nat) => .ro 1 ((ats l f t u).map I)) ∧ fr 79 = I js.length ∧ fr 80 = I k) js.length
    ⟨0, by omega, by omega, rfl, by simp, by simp -dsimp [k0]⟩ ?_
  clear hi hbe k0 k2 k3 k10 k21 k22 k23 hge
  rintro m fr σ ⟨k, hk, rfl, rfl, hbe, k0, k78, k79, k80⟩
  refine WC.on mixed rfl ?_
  simp -dsimp [k0, k78, k79, k80]
  refine WC.on mixed rfl ?_
  simp -dsimp
  refine ⟨fun hlt => ?_, fun hge => ?_⟩
  rotate_left
  · have hg : gaps js l f t := fun u hu => hbe u hu (by omega)
    repeat' first
      | refine WC.on mixed rfl ?_
      | (refine new_block fun b hb => ?_; try simp at hb)
      | simp -dsimp [k0, k78, k79, k80]
      | simp -dsimp (disch := omega) only [w64]
      | refine And.intro (by omega) ?_
      | simp -dsimp [*]
      | refine And.intro ?_ ?_
      | intro h
      | done
    all_goals simp [hg]
  have hno : ¬ gap js[k].pe js[k].ji (ats l f t k) → ¬ gaps js l f t := fun h h' => h (h' k hlt)
  have htb : ∀ i (hi : i < (ats l f t k).length), 0 ≤ (ats l f t k)[i] ∧ (ats l f t k)[i] ≤ 16777216 := fun i hi => ats_bounds hform hi
  have htl := ats_len l f t k
  obtain ⟨⟨⟨p0, p1⟩, _, ⟨j0, j1⟩, _⟩, _⟩ := hv.get hlt
  have hnext : gap js[k].pe js[k].ji (ats l f t k) → ∀ u (hu : u < js.length), u < k + 1 → gap js[u].pe js[u].ji (ats l f t u) := fun h u hu huk => by
    by_cases e : u = k
    · subst e; exact h
    · exact hbe u hu (by omega)
  obtain ⟨ts, hts⟩ : ∃ ts, ats l f t k = ts := ⟨_, rfl⟩
  rw [hts] at hno htl hnext
  simp only [hts] at htb
  have hprod : ∀ d : Int, 0 ≤ d → d ≤ 1000 → 0 ≤ d * js[k].pe ∧ d * js[k].pe ≤ 16777216000 := fun d h0 h1 => ⟨Int.mul_nonneg h0 (by omega), Int.le_trans (Int.mul_le_mul h1 p1 (by omega) (by omega)) (by omega)⟩
  repeat' first
    | refine WC.on mixed rfl ?_
    | (refine new_block fun b hb => ?_; try simp at hb)
    | simp -dsimp [k0, k78, k79, k80, hlt, hts]
    | simp -dsimp (disch := omega) only [w64]
    | refine And.intro (by omega) ?_
    | simp -dsimp [*]
    | refine And.intro ?_ ?_
    | intro h
    | done
  refine WC.loop (fun m fr σ => ∃ i : Nat, i ≤ ts.length ∧ m = ts.length - i ∧ σ = [] ∧ (∀ i', i' < i → ∀ j (hj : j < ts.length), ∀ hi : i' < j, ((j : Int) - i') * js[k].pe - js[k].ji ≤ ts[j] - ts[i']) ∧ fr 0 = .ro 7 (js.map Jb.lv) ∧ fr 78 = .ro 1 ((List.range js.length).map fun (u : Nat) => .ro 1 ((ats l f t u).map I)) ∧ fr 79 = I js.length ∧ fr 80 = I k ∧ fr 14 = I k ∧ fr 15 = .ro 1 (ts.map I) ∧ fr 85 = .ro 1 (ts.map I) ∧ fr 86 = I ts.length ∧ fr 87 = I i) ts.length
    ⟨0, by omega, by omega, rfl, fun i' h => by omega, by simp -dsimp [k0, k78, k79, k80]⟩ ?_
  clear k0 k78 k79 k80
  rintro m fr σ ⟨i, hi, rfl, rfl, hbi, k0, k78, k79, k80, k14, k15, k85, k86, k87⟩
  refine WC.on mixed rfl ?_
  simp -dsimp [k0, k78, k79, k80, k14, k15, k85, k86, k87]
  refine WC.on mixed rfl ?_
  simp -dsimp
  refine ⟨fun hlti => ?_, fun hgei => ?_⟩
  rotate_left
  · have hg : gap js[k].pe js[k].ji ts := fun j hj i' hi' => hbi i' (by omega) j hj hi'
    have hn := hnext hg
    repeat' first
      | refine WC.on mixed rfl ?_
      | (refine new_block fun b hb => ?_; try simp at hb)
      | simp -dsimp [k0, k78, k79, k80, k14, k15, k85, k86, k87]
      | simp -dsimp (disch := omega) only [w64]
      | refine And.intro (by omega) ?_
      | simp -dsimp [*]
      | refine And.intro ?_ ?_
      | intro h
      | done
    exact Round.go (js.length - (k + 1)) [] (by omega) (Sub.nil _) ⟨k + 1, by omega, rfl, rfl, hn, by simp -dsimp [k0, k78, k79, k80, k14, k15, k85, k86, k87]⟩
  repeat' first
    | refine WC.on mixed rfl ?_
    | (refine new_block fun b hb => ?_; try simp at hb)
    | simp -dsimp [k0, k78, k79, k80, k14, k15, k85, k86, k87, hlti]
    | simp -dsimp (disch := omega) only [w64]
    | refine And.intro (by omega) ?_
    | simp -dsimp [*]
    | refine And.intro ?_ ?_
    | intro h
    | done
  refine WC.loop (fun m fr σ => ∃ j : Nat, (i < j ∧ j ≤ ts.length) ∧ m = ts.length - j ∧ σ = [] ∧ (∀ j' (hj : j' < ts.length), i < j' → j' < j → ((j' : Int) - i) * js[k].pe - js[k].ji ≤ ts[j'] - ts[i]) ∧ fr 0 = .ro 7 (js.map Jb.lv) ∧ fr 78 = .ro 1 ((List.range js.length).map fun (u : Nat) => .ro 1 ((ats l f t u).map I)) ∧ fr 79 = I js.length ∧ fr 80 = I k ∧ fr 14 = I k ∧ fr 15 = .ro 1 (ts.map I) ∧ fr 85 = .ro 1 (ts.map I) ∧ fr 86 = I ts.length ∧ fr 87 = I i ∧ fr 16 = I i ∧ fr 17 = I j) (ts.length - (i + 1))
    ⟨i + 1, by omega, rfl, rfl, fun j' _ _ h => by omega, by (simp -dsimp [k0, k78, k79, k80, k14, k15, k85, k86, k87]; try simp -dsimp (disch := omega) only [w64])⟩ ?_
  clear k0 k78 k79 k80 k14 k15 k85 k86 k87
  rintro m fr σ ⟨j, hj, rfl, rfl, hbj, k0, k78, k79, k80, k14, k15, k85, k86, k87, k16, k17⟩
  by_cases hltj : j < ts.length
  rotate_left
  · have hnx : ∀ i', i' < i + 1 → ∀ j (hj : j < ts.length), ∀ hi : i' < j, ((j : Int) - i') * js[k].pe - js[k].ji ≤ ts[j] - ts[i'] := fun i' h j' hj' h' => by
      by_cases e : i' = i
      · subst e
        exact hbj j' hj' h' (by omega)
      · exact hbi i' (by omega) j' hj' h'
    repeat' first
      | refine WC.on mixed rfl ?_
      | (refine new_block fun b hb => ?_; try simp at hb)
      | simp -dsimp [k0, k78, k79, k80, k14, k15, k85, k86, k87, k16, k17, hltj]
      | simp -dsimp (disch := omega) only [w64]
      | refine And.intro (by omega) ?_
      | simp -dsimp [*]
      | refine And.intro ?_ ?_
      | intro h
      | done
    all_goals first
      | (exfalso; omega)
      | exact Round.go (ts.length - (i + 1)) [] (by omega) (Sub.nil _) ⟨i + 1, by omega, rfl, rfl, hnx, by simp -dsimp [k0, k78, k79, k80, k14, k15, k85, k86, k87, k16, k17]⟩
  have hpr := hprod ((j : Int) - i) (by omega) (by omega)
  have hti := htb i hlti
  have htj := htb j hltj
  by_cases hcond : ((j : Int) - i) * js[k].pe - js[k].ji ≤ ts[j] - ts[i]
  rotate_left
  · have hng : ¬ gaps js l f t := hno fun h => hcond (h j hltj i hj.1)
    repeat' first
      | refine WC.on mixed rfl ?_
      | (refine new_block fun b hb => ?_; try simp at hb)
      | refine draw_plan 22 [] [(0, 0), (1, 0), (2, 0), (4, 0), (5, 0), (6, 0), (9, 0), (10, 0), (11, 0), (12, 0), (13, 0), (14, 0), (15, 0), (18, 0), (19, 0), (20, 0), (21, 0), (3, 1), (7, 1), (8, 0), (16, 1), (17, 0), (22, 1), (23, 0), (24, 0)] (by kernel_rfl) rfl ?_
      | refine plan_nil ?_
      | refine plan_none rfl (by simp) ?_
      | refine plan_some rfl rfl (by simp) ?_
      | simp -dsimp [k0, k78, k79, k80, k14, k15, k85, k86, k87, k16, k17, hltj, hlti, hlt]
      | simp -dsimp (disch := omega) only [w64]
      | refine And.intro (by omega) ?_
      | simp -dsimp [*]
      | refine And.intro ?_ ?_
      | intro h
      | done
    all_goals first
      | (exfalso; omega)
      | exact hng (by assumption)
      | simp [hng]
  · have hnx : ∀ j' (hj : j' < ts.length), i < j' → j' < j + 1 → ((j' : Int) - i) * js[k].pe - js[k].ji ≤ ts[j'] - ts[i] := fun j' hj' h1 h2 => by
      by_cases e : j' = j
      · subst e
        exact hcond
      · exact hbj j' hj' h1 (by omega)
    repeat' first
      | refine WC.on mixed rfl ?_
      | (refine new_block fun b hb => ?_; try simp at hb)
      | refine draw_plan 22 [] [(0, 0), (1, 0), (2, 0), (4, 0), (5, 0), (6, 0), (9, 0), (10, 0), (11, 0), (12, 0), (13, 0), (14, 0), (15, 0), (18, 0), (19, 0), (20, 0), (21, 0), (3, 1), (7, 1), (8, 0), (16, 1), (17, 0), (22, 1), (23, 0), (24, 0)] (by kernel_rfl) rfl ?_
      | refine plan_nil ?_
      | refine plan_none rfl (by simp) ?_
      | refine plan_some rfl rfl (by simp) ?_
      | simp -dsimp [k0, k78, k79, k80, k14, k15, k85, k86, k87, k16, k17, hltj, hlti, hlt]
      | simp -dsimp (disch := omega) only [w64]
      | refine And.intro (by omega) ?_
      | simp -dsimp [*]
      | refine And.intro ?_ ?_
      | intro h
      | done
    all_goals first
      | (exfalso; omega)
      | exact Round.go (ts.length - (j + 1)) [] (by omega) (Sub.nil _) ⟨j + 1, by omega, rfl, rfl, hnx, by simp -dsimp [k0, k78, k79, k80, k14, k15, k85, k86, k87, k16, k17]⟩

end Go.Proofs.Ytjamehpnclkjdaa
