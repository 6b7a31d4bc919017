/- Answers that prove that no job is late; equal answers. It bears no statement of its own. -/
import Derived.Test.YtjamehpnclkjdaaS12
namespace Go.Proofs.Ytjamehpnclkjdaa
open Go Go.Ls
set_option linter.unusedVariables false
set_option linter.unusedSimpArgs false
set_option maxRecDepth 100000
attribute [local irreducible] Box drawF

def goodP (l : List Jb) (x : Rt) (ins miss : Int) (i : Nat) (a : An) : Prop := ∃ h : i < l.length, a.bl = blk l i ins ∧ 1 ≤ a.re ∧ a.re + l[i].ji ≤ l[i].de ∧ dem l x i ins miss a.re ≤ a.re
instance (l : List Jb) (x : Rt) (ins miss : Int) (i : Nat) (a : An) : Decidable (goodP l x ins miss i a) := by unfold goodP; infer_instance
theorem goodP_iff {l : List Jb} {x : Rt} {ins miss : Int} {i : Nat} {a : An} (h : i < l.length) : goodP l x ins miss i a ↔ a.bl = blk l i ins ∧ 1 ≤ a.re ∧ a.re + l[i].ji ≤ l[i].de ∧ dem l x i ins miss a.re ≤ a.re := ⟨fun ⟨_, h⟩ => h, fun g => ⟨h, g⟩⟩
def chkA (l : List Jb) (x : Rt) (ins miss : Int) (al : List An) : Prop := ∀ i (h : i < al.length), goodP l x ins miss i al[i]
instance (l : List Jb) (x : Rt) (ins miss : Int) (al : List An) : Decidable (chkA l x ins miss al) := by unfold chkA; infer_instance
def chkV (l : List Jb) (x : Rt) (ins miss : Int) (al : List An) : Int := if okC l x ins miss ∧ al.length = l.length then if chkA l x ins miss al then 0 else 37 else 40

set_option maxHeartbeats 2000000 in
theorem check36 (l : List Jb) (x : Rt) (ins miss : Int) (al : List An) (hl : Fit l) (hal : al.length ≤ 1152921504606846976) : Pure Try.prog 36 [.ro 7 (l.map Jb.lv), x.lv, I ins, I miss, .ro 2 (al.map An.lv)] (I (chkV l x ins miss al)) := by
  have hl0 := hl.1
  by_cases hok : okC l x ins miss ∧ al.length = l.length
  rotate_left
  · have e : chkV l x ins miss al = 40 := if_neg hok
    rw [e]
    refine lcalls_go (rts := [.tmp 10]) Try.func36 rfl rfl rfl rfl rfl ?_
    by_cases hc : okC l x ins miss
    · repeat' first
        | refine WC.on mixed rfl ?_
        | (refine new_block fun b hb => ?_; try simp at hb)
        | refine call_pure (check60 l x ins miss hl) ?_
        | simp -dsimp [hc]
        | simp -dsimp (disch := omega) only [w64]
        | refine And.intro (by omega) ?_
        | simp -dsimp [*]
        | refine And.intro ?_ ?_
        | intro h
        | done
      all_goals (exfalso; exact hok ⟨hc, by omega⟩)
    · repeat' first
        | refine WC.on mixed rfl ?_
        | (refine new_block fun b hb => ?_; try simp at hb)
        | refine call_pure (check60 l x ins miss hl) ?_
        | simp -dsimp [hc]
        | simp -dsimp (disch := omega) only [w64]
        | refine And.intro (by omega) ?_
        | simp -dsimp [*]
        | refine And.intro ?_ ?_
        | intro h
        | done
  have e : chkV l x ins miss al = if chkA l x ins miss al then 0 else 37 := if_pos hok
  rw [e]
  obtain ⟨hc, hall⟩ := hok
  obtain ⟨hv, hvx, hin, hm⟩ := id hc
  have hx := hvx.small
  refine lcalls_go (rts := [.tmp 10]) Try.func36 rfl rfl rfl rfl rfl ?_
  repeat' first
    | refine WC.on mixed rfl ?_
    | (refine new_block fun b hb => ?_; try simp at hb)
    | refine call_pure (check60 l x ins miss hl) ?_
    | simp -dsimp [hc, hall]
    | simp -dsimp (disch := omega) only [w64]
    | refine And.intro (by omega) ?_
    | simp -dsimp [*]
    | refine And.intro ?_ ?_
    | intro h
    | done
  refine WC.loop (fun m fr σ => ∃ i : Nat, i ≤ al.length ∧ m = al.length - i ∧ σ = [(⟨b, 6, 6⟩, [x.lv])] ∧ (∀ j (hj : j < al.length), j < i → goodP l x ins miss j al[j]) ∧ fr 0 = .ro 7 (l.map Jb.lv) ∧ fr 2 = I ins ∧ fr 3 = I miss ∧ fr 6 = .ref ⟨b, 6, 6⟩ 0 0 ∧ fr 26 = .ro 2 (al.map An.lv) ∧ fr 27 = I al.length ∧ fr 28 = I i) al.length ⟨0, by omega, by omega, rfl, by simp, by (simp -dsimp [hall])⟩ ?_
  rintro m fr σ ⟨i, hi, rfl, rfl, hbe, k0, k2, k3, k6, k26, k27, k28⟩
  refine WC.on mixed rfl ?_
  simp -dsimp [k0, k2, k3, k6, k26, k27, k28]
  refine WC.on mixed rfl ?_
  simp -dsimp
  refine ⟨fun hlt => ?_, fun hge => ?_⟩
  · have hi' : i < l.length := by omega
    have hg := goodP_iff (x := x) (ins := ins) (miss := miss) (a := al[i]) hi'
    have hno : ¬ goodP l x ins miss i al[i] → ¬ chkA l x ins miss al := fun h h' => h (h' i hlt)
    obtain ⟨⟨j1, j2, j3, j4, j5, j6⟩, _⟩ := hv.get hi'
    repeat' first
      | refine WC.on mixed rfl ?_
      | (refine new_block fun b hb => ?_; try simp at hb)
      | refine draw_plan 6 [] [(0, 0), (2, 0), (3, 0), (4, 0), (1, 1), (5, 2), (6, 0), (7, 0), (8, 0), (9, 1), (10, 0), (11, 0), (12, 0), (13, 0), (15, 0), (16, 0), (17, 0), (18, 0), (20, 0), (21, 0), (22, 0), (23, 0), (14, 1), (19, 1), (24, 1), (25, 0), (26, 0), (27, 0), (28, 0), (29, 0), (31, 0), (33, 0), (34, 0), (35, 0), (36, 0), (30, 1), (32, 1), (37, 1), (38, 2), (39, 0), (40, 0)] (by kernel_rfl) rfl ?_
      | refine plan_nil ?_
      | refine plan_none rfl (by simp) ?_
      | refine plan_some rfl rfl (by simp) ?_
      | refine call_pure (blocking61 l i ins hi' hl) ?_
      | refine call_pure (demand39 l x i ins miss al[i].re hl hv hx hi' hin hm (by omega) (by omega)) ?_
      | simp -dsimp [k0, k2, k3, k6, k26, k27, k28, hlt, hi']
      | simp -dsimp (disch := omega) only [w64]
      | refine And.intro (by omega) ?_
      | simp -dsimp [*]
      | refine And.intro ?_ ?_
      | intro h
      | done
    all_goals first
      | (have hno' := hno (by rw [hg]; omega)
         first
           | exact hno'
           | exact hno' (by assumption)
           | (simp [hno']; done))
      | (refine Round.go (al.length - (i + 1)) _ (by omega) (Sub.skip _ (Sub.refl _)) ⟨i + 1, by omega, rfl, rfl, fun j hj hji => ?_, by simp -dsimp [k0, k2, k3, k6, k26, k27, k28]⟩
         by_cases e : j = i
         · subst e
           rw [hg]
           exact ⟨by assumption, by omega, by omega, by omega⟩
         · exact hbe j hj (by omega))
  · have hyes : chkA l x ins miss al := fun j hj => hbe j hj (by omega)
    repeat' first
      | refine WC.on mixed rfl ?_
      | (refine new_block fun b hb => ?_; try simp at hb)
      | simp -dsimp [k0, k2, k3, k6, k26, k27, k28]
      | simp -dsimp (disch := omega) only [w64]
      | refine And.intro (by omega) ?_
      | simp -dsimp [*]
      | refine And.intro ?_ ?_
      | intro h
      | done
    all_goals simp [hyes]

set_option maxHeartbeats 2000000 in
theorem check37 (l : List Jb) (x : Rt) (ins miss : Int) (al : List An) (hl : Fit l) (hal : al.length ≤ 1152921504606846976) : Pure Try.prog 37 [.ro 7 (l.map Jb.lv), x.lv, I ins, I miss, .ro 2 (al.map An.lv)] (I (chkV l x ins miss al)) := by
  have hl0 := hl.1
  by_cases hok : okC l x ins miss ∧ al.length = l.length
  rotate_left
  · have e : chkV l x ins miss al = 40 := if_neg hok
    rw [e]
    refine lcalls_go (rts := [.tmp 10]) Try.func37 rfl rfl rfl rfl rfl ?_
    by_cases hc : okC l x ins miss
    · repeat' first
        | refine WC.on mixed rfl ?_
        | (refine new_block fun b hb => ?_; try simp at hb)
        | refine call_pure (good58 l x ins miss hl) ?_
        | simp -dsimp [hc]
        | simp -dsimp (disch := omega) only [w64]
        | refine And.intro (by omega) ?_
        | simp -dsimp [*]
        | refine And.intro ?_ ?_
        | intro h
        | done
      all_goals (exfalso; exact hok ⟨hc, by omega⟩)
    · repeat' first
        | refine WC.on mixed rfl ?_
        | (refine new_block fun b hb => ?_; try simp at hb)
        | refine call_pure (good58 l x ins miss hl) ?_
        | simp -dsimp [hc]
        | simp -dsimp (disch := omega) only [w64]
        | refine And.intro (by omega) ?_
        | simp -dsimp [*]
        | refine And.intro ?_ ?_
        | intro h
        | done
  have e : chkV l x ins miss al = if chkA l x ins miss al then 0 else 37 := if_pos hok
  rw [e]
  obtain ⟨hc, hall⟩ := hok
  obtain ⟨hv, hvx, hin, hm⟩ := id hc
  have hx := hvx.small
  refine lcalls_go (rts := [.tmp 10]) Try.func37 rfl rfl rfl rfl rfl ?_
  repeat' first
    | refine WC.on mixed rfl ?_
    | (refine new_block fun b hb => ?_; try simp at hb)
    | refine call_pure (good58 l x ins miss hl) ?_
    | simp -dsimp [hc, hall]
    | simp -dsimp (disch := omega) only [w64]
    | refine And.intro (by omega) ?_
    | simp -dsimp [*]
    | refine And.intro ?_ ?_
    | intro h
    | done
  refine WC.loop (fun m fr σ => ∃ i : Nat, i ≤ al.length ∧ m = al.length - i ∧ σ = [(⟨b, 6, 6⟩, [x.lv])] ∧ (∀ j (hj : j < al.length), j < i → goodP l x ins miss j al[j]) ∧ fr 0 = .ro 7 (l.map Jb.lv) ∧ fr 2 = I ins ∧ fr 3 = I miss ∧ fr 6 = .ref ⟨b, 6, 6⟩ 0 0 ∧ fr 26 = .ro 2 (al.map An.lv) ∧ fr 27 = I al.length ∧ fr 28 = I i) al.length ⟨0, by omega, by omega, rfl, by simp, by (simp -dsimp [hall])⟩ ?_
  rintro m fr σ ⟨i, hi, rfl, rfl, hbe, k0, k2, k3, k6, k26, k27, k28⟩
  refine WC.on mixed rfl ?_
  simp -dsimp [k0, k2, k3, k6, k26, k27, k28]
  refine WC.on mixed rfl ?_
  simp -dsimp
  refine ⟨fun hlt => ?_, fun hge => ?_⟩
  · have hi' : i < l.length := by omega
    have hg := goodP_iff (x := x) (ins := ins) (miss := miss) (a := al[i]) hi'
    have hno : ¬ goodP l x ins miss i al[i] → ¬ chkA l x ins miss al := fun h h' => h (h' i hlt)
    obtain ⟨⟨j1, j2, j3, j4, j5, j6⟩, _⟩ := hv.get hi'
    repeat' first
      | refine WC.on mixed rfl ?_
      | (refine new_block fun b hb => ?_; try simp at hb)
      | refine draw_plan 6 [] [(0, 0), (2, 0), (3, 0), (4, 0), (1, 1), (5, 2), (6, 0), (7, 0), (8, 0), (9, 1), (10, 0), (11, 0), (12, 0), (13, 0), (14, 1), (15, 0), (16, 0), (17, 0), (18, 0), (20, 0), (22, 0), (23, 0), (24, 0), (25, 0), (19, 1), (21, 1), (26, 1), (27, 2), (28, 0), (29, 0), (30, 0), (31, 0), (33, 0), (34, 0), (35, 0), (36, 0), (39, 0), (40, 0), (41, 0), (42, 0), (32, 1), (37, 1), (38, 0), (43, 1), (44, 0), (45, 0)] (by kernel_rfl) rfl ?_
      | refine plan_nil ?_
      | refine plan_none rfl (by simp) ?_
      | refine plan_some rfl rfl (by simp) ?_
      | refine call_pure (blocking59 l i ins hi' hl) ?_
      | refine call_pure (demand45 l x i ins miss al[i].re hl hv hx hi' hin hm (by omega) (by omega)) ?_
      | simp -dsimp [k0, k2, k3, k6, k26, k27, k28, hlt, hi']
      | simp -dsimp (disch := omega) only [w64]
      | refine And.intro (by omega) ?_
      | simp -dsimp [*]
      | refine And.intro ?_ ?_
      | intro h
      | done
    all_goals first
      | (have hno' := hno (by rw [hg]; omega)
         first
           | exact hno'
           | exact hno' (by assumption)
           | (simp [hno']; done))
      | (refine Round.go (al.length - (i + 1)) _ (by omega) (Sub.skip _ (Sub.refl _)) ⟨i + 1, by omega, rfl, rfl, fun j hj hji => ?_, by simp -dsimp [k0, k2, k3, k6, k26, k27, k28]⟩
         by_cases e : j = i
         · subst e
           rw [hg]
           exact ⟨by assumption, by omega, by omega, by omega⟩
         · exact hbe j hj (by omega))
  · have hyes : chkA l x ins miss al := fun j hj => hbe j hj (by omega)
    repeat' first
      | refine WC.on mixed rfl ?_
      | (refine new_block fun b hb => ?_; try simp at hb)
      | simp -dsimp [k0, k2, k3, k6, k26, k27, k28]
      | simp -dsimp (disch := omega) only [w64]
      | refine And.intro (by omega) ?_
      | simp -dsimp [*]
      | refine And.intro ?_ ?_
      | intro h
      | done
    all_goals simp [hyes]
end Go.Proofs.Ytjamehpnclkjdaa
