/- Response times. It bears no statement of its own. -/
import Derived.Test.YtjamehpnclkjdaaS9
namespace Go.Proofs.Ytjamehpnclkjdaa
open Go Go.Ls
set_option linter.unusedVariables false
set_option linter.unusedSimpArgs false
set_option maxRecDepth 100000
attribute [local irreducible] Box drawF

def ltT (o : Option Int) : LV := .tup [I (o.getD 0), Bo o.isSome]
def tmT (o : Option Int) : LV := match o with
  | some t => .tup [I t, I 0]
  | none => .tup [I 0, I 38]
def rtT (l : List Jb) (x : Rt) (ins miss i : Int) : LV := if okC l x ins miss ∧ 0 ≤ i ∧ i < l.length then tmT (rt l x ins miss i.toNat) else .tup [I 0, I 40]

section
variable {l : List Jb} {x : Rt} {i : Nat} {ins miss t : Int}
theorem rt_out (hi : i < l.length) (h : ∀ s, 1 ≤ s → s < t → s < dem l x i ins miss s) (hd : l[i].de < t + l[i].ji) : rt l x ins miss i = none := by
  rw [rt_eq hi, resp_none]
  intro s h1 h2
  exact h s h1 (by omega)
theorem rt_in (hi : i < l.length) (h : ∀ s, 1 ≤ s → s < t → s < dem l x i ins miss s) (h1 : 1 ≤ t) (hd : t + l[i].ji ≤ l[i].de) (ht : dem l x i ins miss t ≤ t) : rt l x ins miss i = some t := by
  rw [rt_eq hi, resp_some]
  exact ⟨h1, hd, ht, h⟩
theorem rt_on (hv : validL l) (hx : Small x) (hm : 0 ≤ miss) (h : ∀ s, 1 ≤ s → s < t → s < dem l x i ins miss s) (ht : t < dem l x i ins miss t) : ∀ s, 1 ≤ s → s < dem l x i ins miss t → s < dem l x i ins miss s := by
  intro s h1 h2
  by_cases hs : s < t
  · exact h s h1 hs
  · have := dem_mono hv hx (i := i) (ins := ins) hm (show t ≤ s by omega)
    omega
end

set_option maxHeartbeats 1000000 in
theorem least62 (l : List Jb) (x : Rt) (i : Nat) (ins miss : Int) (hl : Fit l) (hv : validL l) (hx : Small x) (hi : i < l.length) (hin : 0 ≤ ins ∧ ins ≤ 16777216) (hm : 0 ≤ miss ∧ miss ≤ 100) :
    Pure Try.prog 62 [.ro 7 (l.map Jb.lv), x.lv, I i, I ins, I miss] (ltT (rt l x ins miss i)) := by
  obtain ⟨⟨j1, j2, j3, j4, j5, j6⟩, _⟩ := hv.get hi
  refine lcalls_go (rts := [.tmp 10, .tmp 11]) Try.func62 rfl rfl rfl rfl rfl ?_
  repeat' first
    | refine WC.on mixed rfl ?_
    | (refine new_block fun b hb => ?_; try simp at hb)
    | simp -dsimp []
    | simp -dsimp (disch := omega) only [w64]
    | refine And.intro (by omega) ?_
    | simp -dsimp [*]
    | refine And.intro ?_ ?_
    | intro h
    | done
  refine WC.loop (fun m fr σ => ∃ t : Int, (1 ≤ t ∧ t ≤ 36028797018963968) ∧ (∀ s, 1 ≤ s → s < t → s < dem l x i ins miss s) ∧ m = (l[i].de + 1 - l[i].ji - t).toNat ∧ σ = [(⟨b, 6, 6⟩, [x.lv])] ∧ fr 0 = .ro 7 (l.map Jb.lv) ∧ fr 2 = I i ∧ fr 3 = I ins ∧ fr 4 = I miss ∧ fr 6 = .ref ⟨b, 6, 6⟩ 0 0 ∧ fr 12 = I t) (l[i].de + 1 - l[i].ji - 1).toNat
    ⟨1, by omega, fun s h1 h2 => by omega, rfl, rfl, by simp -dsimp⟩ ?_
  rintro m fr σ ⟨t, ht, hs, rfl, rfl, k0, k2, k3, k4, k6, k12⟩
  have hd := fun h2 => dem_bounds hv hx (i := i) (t := t) hin (miss := miss) (by omega) (by omega) h2
  by_cases hle : t + l[i].ji ≤ l[i].de
  · have hd' := hd (by omega)
    by_cases hDt : dem l x i ins miss t ≤ t
    · have hr := rt_in hi hs ht.1 hle hDt
      repeat' first
        | refine WC.on mixed rfl ?_
        | (refine new_block fun b hb => ?_; try simp at hb)
        | refine draw_plan 2 [] [(0, 0), (1, 0), (2, 0), (3, 0), (4, 0), (7, 0), (8, 0), (9, 0), (10, 0), (5, 1), (6, 0), (11, 1), (12, 0)] (by kernel_rfl) rfl ?_
        | refine plan_nil ?_
        | refine plan_none rfl (by simp) ?_
        | refine plan_some rfl rfl (by simp) ?_
        | refine call_pure (demand39 l x i ins miss t hl hv hx hi hin hm (by omega) (by omega)) ?_
        | simp -dsimp [k0, k2, k3, k4, k6, k12, hi, hle, hDt]
        | simp -dsimp (disch := omega) only [w64]
        | refine And.intro (by omega) ?_
        | simp -dsimp [*]
        | refine And.intro ?_ ?_
        | intro h
        | done
      all_goals first
        | (exfalso; omega)
        | simp [ltT, tmT, hr]
    · have hn := rt_on hv hx hm.1 hs (by omega)
      repeat' first
        | refine WC.on mixed rfl ?_
        | (refine new_block fun b hb => ?_; try simp at hb)
        | refine draw_plan 2 [] [(0, 0), (1, 0), (2, 0), (3, 0), (4, 0), (7, 0), (8, 0), (9, 0), (10, 0), (5, 1), (6, 0), (11, 1), (12, 0)] (by kernel_rfl) rfl ?_
        | refine plan_nil ?_
        | refine plan_none rfl (by simp) ?_
        | refine plan_some rfl rfl (by simp) ?_
        | refine call_pure (demand39 l x i ins miss t hl hv hx hi hin hm (by omega) (by omega)) ?_
        | simp -dsimp [k0, k2, k3, k4, k6, k12, hi, hle, hDt]
        | simp -dsimp (disch := omega) only [w64]
        | refine And.intro (by omega) ?_
        | simp -dsimp [*]
        | refine And.intro ?_ ?_
        | intro h
        | done
      all_goals first
        | (exfalso; omega)
        | exact Round.go _ _ (by omega) (Sub.refl _) ⟨dem l x i ins miss t, by omega, hn, rfl, rfl, by simp -dsimp [k0, k2, k3, k4, k6, k12]⟩
  · have hr := rt_out hi hs (by omega)
    repeat' first
      | refine WC.on mixed rfl ?_
      | (refine new_block fun b hb => ?_; try simp at hb)
      | refine draw_plan 2 [] [(0, 0), (1, 0), (2, 0), (3, 0), (4, 0), (7, 0), (8, 0), (9, 0), (10, 0), (5, 1), (6, 0), (11, 1), (12, 0)] (by kernel_rfl) rfl ?_
      | refine plan_nil ?_
      | refine plan_none rfl (by simp) ?_
      | refine plan_some rfl rfl (by simp) ?_
      | simp -dsimp [k0, k2, k3, k4, k6, k12, hi, hle]
      | simp -dsimp (disch := omega) only [w64]
      | refine And.intro (by omega) ?_
      | simp -dsimp [*]
      | refine And.intro ?_ ?_
      | intro h
      | done
    all_goals first
      | (exfalso; omega)
      | simp [ltT, tmT, hr]

set_option maxHeartbeats 1000000 in
theorem time40 (l : List Jb) (x : Rt) (i ins miss : Int) (hl : Fit l) : Pure Try.prog 40 [.ro 7 (l.map Jb.lv), x.lv, I i, I ins, I miss] (rtT l x ins miss i) := by
  have hl0 := hl.1
  by_cases hok : okC l x ins miss ∧ 0 ≤ i ∧ i < l.length
  · have e : rtT l x ins miss i = tmT (rt l x ins miss i.toNat) := if_pos hok
    rw [e]
    obtain ⟨hc, hi0, hi1⟩ := hok
    obtain ⟨i, rfl⟩ := Int.eq_ofNat_of_zero_le hi0
    rw [Int.toNat_natCast]
    have hi : i < l.length := by omega
    obtain ⟨hv, hvx, hin, hm⟩ := id hc
    have hx := hvx.small
    cases hr : rt l x ins miss i
    all_goals refine lcalls_go (rts := [.tmp 10, .tmp 11]) Try.func40 rfl rfl rfl rfl rfl ?_
    all_goals
      repeat' first
        | refine WC.on mixed rfl ?_
        | (refine new_block fun b hb => ?_; try simp at hb)
        | refine call_pure (check60 l x ins miss hl) ?_
        | refine call_pure (least62 l x i ins miss hl hv hx hi hin hm) ?_
        | simp -dsimp [hc, hi, hr, ltT]
        | simp -dsimp (disch := omega) only [w64]
        | refine And.intro (by omega) ?_
        | simp -dsimp [*]
        | refine And.intro ?_ ?_
        | intro h
        | done
    all_goals first
      | (exfalso; omega)
      | rfl
  · have e : rtT l x ins miss i = .tup [I 0, I 40] := if_neg hok
    rw [e]
    refine lcalls_go (rts := [.tmp 10, .tmp 11]) Try.func40 rfl rfl rfl rfl rfl ?_
    by_cases hc : okC l x ins miss
    · repeat' first
        | refine WC.on mixed rfl ?_
        | (refine new_block fun b hb => ?_; try simp at hb)
        | refine call_pure (check60 l x ins miss hl) ?_
        | simp -dsimp [hc]
        | simp -dsimp (disch := omega) only [w64]
        | refine And.intro (by omega) ?_
        | simp -dsimp [*]
        | refine And.intro ?_ ?_
        | intro h
        | done
      all_goals (exfalso; exact hok ⟨hc, by omega, by omega⟩)
    · repeat' first
        | refine WC.on mixed rfl ?_
        | (refine new_block fun b hb => ?_; try simp at hb)
        | refine call_pure (check60 l x ins miss hl) ?_
        | simp -dsimp [hc]
        | simp -dsimp (disch := omega) only [w64]
        | refine And.intro (by omega) ?_
        | simp -dsimp [*]
        | refine And.intro ?_ ?_
        | intro h
        | done

set_option maxHeartbeats 1000000 in
theorem time42 (l : List Jb) (x : Rt) (i ins miss : Int) (hl : Fit l) : Pure Try.prog 42 [.ro 7 (l.map Jb.lv), x.lv, I i, I ins, I miss] (rtT l x ins miss i) := by
  have hl0 := hl.1
  by_cases hok : okC l x ins miss ∧ 0 ≤ i ∧ i < l.length
  · have e : rtT l x ins miss i = tmT (rt l x ins miss i.toNat) := if_pos hok
    rw [e]
    obtain ⟨hc, hi0, hi1⟩ := hok
    obtain ⟨i, rfl⟩ := Int.eq_ofNat_of_zero_le hi0
    rw [Int.toNat_natCast]
    have hi : i < l.length := by omega
    obtain ⟨hv, hvx, hin, hm⟩ := id hc
    have hx := hvx.small
    obtain ⟨⟨j1, j2, j3, j4, j5, j6⟩, _⟩ := hv.get hi
    refine lcalls_go (rts := [.tmp 10, .tmp 11]) Try.func42 rfl rfl rfl rfl rfl ?_
    repeat' first
      | refine WC.on mixed rfl ?_
      | (refine new_block fun b hb => ?_; try simp at hb)
      | refine call_pure (good58 l x ins miss hl) ?_
      | simp -dsimp [hc, hi]
      | simp -dsimp (disch := omega) only [w64]
      | refine And.intro (by omega) ?_
      | simp -dsimp [*]
      | refine And.intro ?_ ?_
      | intro h
      | done
    all_goals try (exfalso; omega)
    refine WC.loop (fun m fr σ => ∃ t : Int, (1 ≤ t ∧ t ≤ 36028797018963968) ∧ (∀ s, 1 ≤ s → s < t → s < dem l x i ins miss s) ∧ m = (l[i].de + 1 - l[i].ji - t).toNat ∧ σ = [(⟨b, 6, 6⟩, [x.lv])] ∧ fr 0 = .ro 7 (l.map Jb.lv) ∧ fr 2 = I i ∧ fr 3 = I ins ∧ fr 4 = I miss ∧ fr 6 = .ref ⟨b, 6, 6⟩ 0 0 ∧ fr 12 = I t) (l[i].de + 1 - l[i].ji - 1).toNat
      ⟨1, by omega, fun s h1 h2 => by omega, rfl, rfl, by simp -dsimp⟩ ?_
    rintro m fr σ ⟨t, ht, hs, rfl, rfl, k0, k2, k3, k4, k6, k12⟩
    have hd := fun h2 => dem_bounds hv hx (i := i) (t := t) hin (miss := miss) (by omega) (by omega) h2
    by_cases hle : t + l[i].ji ≤ l[i].de
    · have hd' := hd (by omega)
      by_cases hDt : dem l x i ins miss t ≤ t
      · have hr := rt_in hi hs ht.1 hle hDt
        repeat' first
          | refine WC.on mixed rfl ?_
          | (refine new_block fun b hb => ?_; try simp at hb)
          | refine draw_plan 4 [] [(0, 0), (1, 0), (2, 0), (3, 0), (4, 0), (7, 0), (8, 0), (9, 0), (10, 0), (5, 1), (6, 0), (11, 1), (12, 0)] (by kernel_rfl) rfl ?_
          | refine plan_nil ?_
          | refine plan_none rfl (by simp) ?_
          | refine plan_some rfl rfl (by simp) ?_
          | refine call_pure (demand45 l x i ins miss t hl hv hx hi hin hm (by omega) (by omega)) ?_
          | simp -dsimp [k0, k2, k3, k4, k6, k12, hi, hle, hDt]
          | simp -dsimp (disch := omega) only [w64]
          | refine And.intro (by omega) ?_
          | simp -dsimp [*]
          | refine And.intro ?_ ?_
          | intro h
          | done
        all_goals first
          | (exfalso; omega)
          | simp [ltT, tmT, hr]
      · have hn := rt_on hv hx hm.1 hs (by omega)
        repeat' first
          | refine WC.on mixed rfl ?_
          | (refine new_block fun b hb => ?_; try simp at hb)
          | refine draw_plan 4 [] [(0, 0), (1, 0), (2, 0), (3, 0), (4, 0), (7, 0), (8, 0), (9, 0), (10, 0), (5, 1), (6, 0), (11, 1), (12, 0)] (by kernel_rfl) rfl ?_
          | refine plan_nil ?_
          | refine plan_none rfl (by simp) ?_
          | refine plan_some rfl rfl (by simp) ?_
          | refine call_pure (demand45 l x i ins miss t hl hv hx hi hin hm (by omega) (by omega)) ?_
          | simp -dsimp [k0, k2, k3, k4, k6, k12, hi, hle, hDt]
          | simp -dsimp (disch := omega) only [w64]
          | refine And.intro (by omega) ?_
          | simp -dsimp [*]
          | refine And.intro ?_ ?_
          | intro h
          | done
        all_goals first
          | (exfalso; omega)
          | exact Round.go _ _ (by omega) (Sub.refl _) ⟨dem l x i ins miss t, by omega, hn, rfl, rfl, by simp -dsimp [k0, k2, k3, k4, k6, k12]⟩
    · have hr := rt_out hi hs (by omega)
      repeat' first
        | refine WC.on mixed rfl ?_
        | (refine new_block fun b hb => ?_; try simp at hb)
        | refine draw_plan 4 [] [(0, 0), (1, 0), (2, 0), (3, 0), (4, 0), (7, 0), (8, 0), (9, 0), (10, 0), (5, 1), (6, 0), (11, 1), (12, 0)] (by kernel_rfl) rfl ?_
        | refine plan_nil ?_
        | refine plan_none rfl (by simp) ?_
        | refine plan_some rfl rfl (by simp) ?_
        | simp -dsimp [k0, k2, k3, k4, k6, k12, hi, hle]
        | simp -dsimp (disch := omega) only [w64]
        | refine And.intro (by omega) ?_
        | simp -dsimp [*]
        | refine And.intro ?_ ?_
        | intro h
        | done
      all_goals first
        | (exfalso; omega)
        | simp [ltT, tmT, hr]
  · have e : rtT l x ins miss i = .tup [I 0, I 40] := if_neg hok
    rw [e]
    refine lcalls_go (rts := [.tmp 10, .tmp 11]) Try.func42 rfl rfl rfl rfl rfl ?_
    by_cases hc : okC l x ins miss
    · repeat' first
        | refine WC.on mixed rfl ?_
        | (refine new_block fun b hb => ?_; try simp at hb)
        | refine call_pure (good58 l x ins miss hl) ?_
        | simp -dsimp [hc]
        | simp -dsimp (disch := omega) only [w64]
        | refine And.intro (by omega) ?_
        | simp -dsimp [*]
        | refine And.intro ?_ ?_
        | intro h
        | done
      all_goals (exfalso; exact hok ⟨hc, by omega, by omega⟩)
    · repeat' first
        | refine WC.on mixed rfl ?_
        | (refine new_block fun b hb => ?_; try simp at hb)
        | refine call_pure (good58 l x ins miss hl) ?_
        | simp -dsimp [hc]
        | simp -dsimp (disch := omega) only [w64]
        | refine And.intro (by omega) ?_
        | simp -dsimp [*]
        | refine And.intro ?_ ?_
        | intro h
        | done
end Go.Proofs.Ytjamehpnclkjdaa
