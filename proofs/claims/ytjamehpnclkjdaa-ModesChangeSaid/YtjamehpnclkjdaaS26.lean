/- Releases of a time, as the document has it. It bears no statement of its own. -/
import Derived.Test.YtjamehpnclkjdaaS25
namespace Go.Proofs.Ytjamehpnclkjdaa
open Go Go.Ls
set_option linter.unusedVariables false
set_option linter.unusedSimpArgs false
set_option maxRecDepth 100000
attribute [local irreducible] Box drawF

theorem conR_take {js : List Jb} {r : Rl} {m : List Rl} {f t : Int} (h : conR js r (prs m f t r)) (q : Nat) : conR js r (prs (m.take q) f t r) := by
  intro k hk
  have e : prs m f t r = prs (m.take q) f t r ++ prs (m.drop q) f t r := by
    have : prs (m.take q ++ m.drop q) f t r = prs (m.take q) f t r ++ prs (m.drop q) f t r := by
      unfold prs
      rw [List.filter_append, List.map_append]
    rwa [List.take_append_drop] at this
  have h2 := h k (by rw [e, List.length_append]; omega)
  have e2 : (prs m f t r)[k]'(by rw [e, List.length_append]; omega) = (prs (m.take q) f t r)[k] := by
    simp only [e]
    rw [List.getElem_append_left hk]
  rw [e2] at h2
  exact h2
theorem conR_snoc {js : List Jb} {r : Rl} {ts : List Int} {x : Int} (h : conR js r ts) (hx : ((ts.length : Int) + 1) * peO js r - jiO js r ≤ x - r.ti) : conR js r (ts ++ [x]) := by
  intro k hk
  by_cases e : k < ts.length
  · rw [List.getElem_append_left e]
    exact h k e
  · have : k = ts.length := by simp at hk; omega
    subst this
    simpa using hx
theorem conR_last {js : List Jb} {r : Rl} {ts : List Int} {x : Int} (h : conR js r (ts ++ [x])) : ((ts.length : Int) + 1) * peO js r - jiO js r ≤ x - r.ti := by
  have := h ts.length (by simp)
  simpa using this

set_option maxHeartbeats 8000000 in
theorem releases70 (js : List Jb) (l : List Rl) (f t : Int) (hf : Fit js) (hv : validL js) (hl : l.length ≤ 1000) : Pure Try.prog 70 [.ro 7 (js.map Jb.lv), .ro 3 (l.map Rl.lv), I f, I t] (I (relV js l f t)) := by
  have hl0 := hf.1
  have hlen := hv.1
  refine lcalls_go (rts := [.tmp 8]) Try.func70 rfl rfl rfl rfl rfl ?_
  repeat' first
    | refine WC.on mixed rfl ?_
    | (refine new_block fun b hb => ?_; try simp at hb)
    | simp -dsimp []
    | simp -dsimp (disch := omega) only [w64]
    | refine And.intro (by omega) ?_
    | simp -dsimp [*]
    | refine And.intro ?_ ?_
    | intro h
    | done
  refine WC.loop (fun m fr σ => ∃ i : Nat, i ≤ l.length ∧ m = l.length - i ∧ σ = [] ∧ (∀ q (hq : q < l.length), q < i → okR js.length f t (prevR l q) l[q]) ∧ fr 0 = .ro 7 (js.map Jb.lv) ∧ fr 1 = .ro 3 (l.map Rl.lv) ∧ fr 2 = I f ∧ fr 3 = I t ∧ fr 16 = .ro 3 (l.map Rl.lv) ∧ fr 17 = I l.length ∧ fr 18 = I i) l.length ⟨0, by omega, by omega, rfl, by simp, by (simp -dsimp [])⟩ ?_
  rintro m fr σ ⟨i, hi, rfl, rfl, hbe, k0, k1, k2, k3, k16, k17, k18⟩
  refine WC.on mixed rfl ?_
  simp -dsimp [k0, k1, k2, k3, k16, k17, k18]
  refine WC.on mixed rfl ?_
  simp -dsimp
  refine ⟨fun hlt => ?_, fun hge => ?_⟩
  · have hno : ¬ okR js.length f t (prevR l i) l[i] → relV js l f t = 10 := fun h => if_neg fun h' => h (h' i hlt)
    have hstep : okR js.length f t (prevR l i) l[i] → ∀ q (hq : q < l.length), q < i + 1 → okR js.length f t (prevR l q) l[q] := fun h q hq hqi => by
      by_cases e : q = i
      · subst e; exact h
      · exact hbe q hq (by omega)
    have hnn : ∀ m, m < i → ∀ (hm : m < l.length), 0 ≤ l[m].ti := by
      intro m
      induction m with
      | zero => intro h1 h2; exact (hbe 0 h2 h1).1
      | succ m ih =>
        intro h1 h2
        have h3 := (hbe (m + 1) h2 h1).1
        rw [prevR_succ l (by omega)] at h3
        have := ih (by omega) (by omega)
        omega
    have hpn : 0 ≤ prevR l i := by
      cases i with
      | zero => exact Int.le_refl _
      | succ i => rw [prevR_succ l (by omega)]; exact hnn i (by omega) (by omega)
    have hokd : okR js.length f t (prevR l i) l[i] ↔ (prevR l i ≤ l[i].ti ∧ l[i].ti ≤ 16777216 ∧ (f ≤ l[i].ti ∧ l[i].ti < t → 0 ≤ l[i].un ∧ l[i].un < js.length)) := by simp [okR, inn]
    by_cases hok : okR js.length f t (prevR l i) l[i]
    rotate_left
    · have h10 := hno hok
      rw [h10]
      rw [hokd] at hok
      rcases i with _ | i
      · have hp : prevR l 0 = 0 := rfl
        rw [hp] at hok
        repeat' first
          | refine WC.on mixed rfl ?_
          | (refine new_block fun b hb => ?_; try simp at hb)
          | refine draw_plan 4 [] [(0, 0), (1, 1), (2, 0), (3, 0), (4, 0), (5, 1), (6, 0), (7, 0), (8, 0), (9, 0), (10, 0), (11, 0), (12, 0), (13, 0), (14, 0), (15, 0), (16, 0), (18, 0), (17, 1), (19, 1), (20, 0), (21, 0), (22, 0)] (by kernel_rfl) rfl ?_
          | refine plan_nil ?_
          | refine plan_none rfl (by simp) ?_
          | refine plan_some rfl rfl (by simp) ?_
          | simp -dsimp [k0, k1, k2, k3, k16, k17, k18, hlt]
          | simp -dsimp (disch := omega) only [w64]
          | refine And.intro (by omega) ?_
          | simp -dsimp [*]
          | refine And.intro ?_ ?_
          | intro h
          | done
        all_goals (exfalso; omega)
      · rw [prevR_succ l (by omega)] at hok hpn
        have hil : i < l.length := by omega
        repeat' first
          | refine WC.on mixed rfl ?_
          | (refine new_block fun b hb => ?_; try simp at hb)
          | refine draw_plan 4 [] [(0, 0), (1, 1), (2, 0), (3, 0), (4, 0), (5, 1), (6, 0), (7, 0), (8, 0), (9, 0), (10, 0), (11, 0), (12, 0), (13, 0), (14, 0), (15, 0), (16, 0), (18, 0), (17, 1), (19, 1), (20, 0), (21, 0), (22, 0)] (by kernel_rfl) rfl ?_
          | refine plan_nil ?_
          | refine plan_none rfl (by simp) ?_
          | refine plan_some rfl rfl (by simp) ?_
          | simp -dsimp [k0, k1, k2, k3, k16, k17, k18, hlt, hil]
          | simp -dsimp (disch := omega) only [w64]
          | refine And.intro (by omega) ?_
          | simp -dsimp [*]
          | refine And.intro ?_ ?_
          | intro h
          | done
        all_goals (exfalso; omega)
    · have hst := hstep hok
      rw [hokd] at hok
      rcases i with _ | i
      · have hp : prevR l 0 = 0 := rfl
        rw [hp] at hok
        repeat' first
          | refine WC.on mixed rfl ?_
          | (refine new_block fun b hb => ?_; try simp at hb)
          | refine draw_plan 4 [] [(0, 0), (1, 1), (2, 0), (3, 0), (4, 0), (5, 1), (6, 0), (7, 0), (8, 0), (9, 0), (10, 0), (11, 0), (12, 0), (13, 0), (14, 0), (15, 0), (16, 0), (18, 0), (17, 1), (19, 1), (20, 0), (21, 0), (22, 0)] (by kernel_rfl) rfl ?_
          | refine plan_nil ?_
          | refine plan_none rfl (by simp) ?_
          | refine plan_some rfl rfl (by simp) ?_
          | simp -dsimp [k0, k1, k2, k3, k16, k17, k18, hlt]
          | simp -dsimp (disch := omega) only [w64]
          | refine And.intro (by omega) ?_
          | simp -dsimp [*]
          | refine And.intro ?_ ?_
          | intro h
          | done
        all_goals first
          | (exfalso; omega)
          | exact Round.go (l.length - (0 + 1)) [] (by omega) (Sub.nil _) ⟨0 + 1, by omega, rfl, rfl, hst, by simp -dsimp [k0, k1, k2, k3, k16, k17, k18]⟩
      · rw [prevR_succ l (by omega)] at hok hpn
        have hil : i < l.length := by omega
        repeat' first
          | refine WC.on mixed rfl ?_
          | (refine new_block fun b hb => ?_; try simp at hb)
          | refine draw_plan 4 [] [(0, 0), (1, 1), (2, 0), (3, 0), (4, 0), (5, 1), (6, 0), (7, 0), (8, 0), (9, 0), (10, 0), (11, 0), (12, 0), (13, 0), (14, 0), (15, 0), (16, 0), (18, 0), (17, 1), (19, 1), (20, 0), (21, 0), (22, 0)] (by kernel_rfl) rfl ?_
          | refine plan_nil ?_
          | refine plan_none rfl (by simp) ?_
          | refine plan_some rfl rfl (by simp) ?_
          | simp -dsimp [k0, k1, k2, k3, k16, k17, k18, hlt, hil]
          | simp -dsimp (disch := omega) only [w64]
          | refine And.intro (by omega) ?_
          | simp -dsimp [*]
          | refine And.intro ?_ ?_
          | intro h
          | done
        all_goals first
          | (exfalso; omega)
          | exact Round.go (l.length - (i + 1 + 1)) [] (by omega) (Sub.nil _) ⟨i + 1 + 1, by omega, rfl, rfl, hst, by simp -dsimp [k0, k1, k2, k3, k16, k17, k18]⟩
  have hform : formR js.length l f t := fun q hq => hbe q hq (by omega)
  have hrel : relV js l f t = if gaps js l f t then 0 else 39 := if_pos hform
  have hcon := con_iff hform
  have hsort := sorted_of hform
  have hnn := formR_nonneg hform
  rw [hrel]
  repeat' first
    | refine WC.on mixed rfl ?_
    | (refine new_block fun b hb => ?_; try simp at hb)
    | simp -dsimp [k0, k1, k2, k3, k16, k17, k18]
    | simp -dsimp (disch := omega) only [w64]
    | refine And.intro (by omega) ?_
    | simp -dsimp [*]
    | refine And.intro ?_ ?_
    | intro h
    | done
  clear hi hbe hge
  refine WC.loop (fun m fr σ => ∃ i : Nat, i ≤ l.length ∧ m = l.length - i ∧ σ = [] ∧ (∀ i', i' < i → conI js l f t i') ∧ fr 0 = .ro 7 (js.map Jb.lv) ∧ fr 1 = .ro 3 (l.map Rl.lv) ∧ fr 2 = I f ∧ fr 3 = I t ∧ fr 69 = .ro 3 (l.map Rl.lv) ∧ fr 70 = I l.length ∧ fr 71 = I i) l.length ⟨0, by omega, by omega, rfl, fun i' h => by omega, by (simp -dsimp [k0, k1, k2, k3, k16, k17, k18])⟩ ?_
  rintro m fr σ ⟨i, hi, rfl, rfl, hci, k0, k1, k2, k3, k69, k70, k71⟩
  refine WC.on mixed rfl ?_
  simp -dsimp [k0, k1, k2, k3, k69, k70, k71]
  refine WC.on mixed rfl ?_
  simp -dsimp
  refine ⟨fun hlt => ?_, fun hge => ?_⟩
  rotate_left
  · have hg : gaps js l f t := hcon.1 fun i' => by
      by_cases e : i' < l.length
      · exact hci i' (by omega)
      · exact fun h => absurd h e
    repeat' first
      | refine WC.on mixed rfl ?_
      | (refine new_block fun b hb => ?_; try simp at hb)
      | simp -dsimp [k0, k1, k2, k3, k69, k70, k71]
      | simp -dsimp (disch := omega) only [w64]
      | refine And.intro (by omega) ?_
      | simp -dsimp [*]
      | refine And.intro ?_ ?_
      | intro h
      | done
    all_goals simp [hg]
  obtain ⟨rest, hrest⟩ : ∃ rest, l.drop (i + 1) = rest := ⟨_, rfl⟩
  have hmr : (l.map Rl.lv).drop (i + 1) = rest.map Rl.lv := by rw [← hrest, List.map_drop]
  have hrl : l.length - (i + 1) = rest.length := by rw [← hrest, List.length_drop]
  have hwr : IntKind.i64.wrap ((i : Int) + 1) = (i : Int) + 1 := w64 (by omega) (by omega)
  have hmt : (l.map Rl.lv).take l.length = l.map Rl.lv := List.take_of_length_le (by simp)
  have hti : ((i : Int) + 1).toNat = i + 1 := by omega
  have hget : ∀ q (hq : q < rest.length), ∃ hq' : i + 1 + q < l.length, rest[q] = l[i + 1 + q] := fun q hq => ⟨by omega, by simp only [← hrest]; rw [List.getElem_drop]⟩
  have hno : ¬ conR js l[i] (prs rest f t l[i]) → ¬ gaps js l f t := fun h h' => h (by have := hcon.2 h' i hlt; rwa [hrest] at this)
  have hnext : conR js l[i] (prs rest f t l[i]) → ∀ i', i' < i + 1 → conI js l f t i' := fun h i' hi' => by
    by_cases e : i' = i
    · subst e
      intro h2
      rw [hrest]
      exact h
    · exact hci i' (by omega)
  repeat' first
    | refine WC.on mixed rfl ?_
    | (refine new_block fun b hb => ?_; try simp at hb)
    | simp -dsimp [k0, k1, k2, k3, k69, k70, k71, hlt, hwr, hti, hmt, hmr, hrl]
    | simp -dsimp (disch := omega) only [w64]
    | refine And.intro (by omega) ?_
    | simp -dsimp [*]
    | refine And.intro ?_ ?_
    | intro h
    | done
  all_goals try (exfalso; omega)
  obtain ⟨b12, hb12⟩ : ∃ b12, b12 = b := ⟨b, rfl⟩
  subst hb12
  trace_state
  refine WC.loop (fun m fr σ => ∃ q : Nat, q ≤ rest.length ∧ m = rest.length - q ∧ σ = [(⟨b12, 3, 3⟩, [l[i].lv])] ∧ conR js l[i] (prs (rest.take q) f t l[i]) ∧ fr 0 = .ro 7 (js.map Jb.lv) ∧ fr 1 = .ro 3 (l.map Rl.lv) ∧ fr 2 = I f ∧ fr 3 = I t ∧ fr 69 = .ro 3 (l.map Rl.lv) ∧ fr 70 = I l.length ∧ fr 71 = I i ∧ fr 12 = .ref ⟨b12, 3, 3⟩ 0 0 ∧ fr 13 = I (prs (rest.take q) f t l[i]).length ∧ fr 79 = .ro 3 (rest.map Rl.lv) ∧ fr 80 = I rest.length ∧ fr 81 = I q) rest.length ⟨0, by omega, by omega, rfl, by intro k hk; simp [prs] at hk, by (simp -dsimp [k0, k1, k2, k3, k69, k70, k71, prs, hrl])⟩ ?_
  rintro m fr σ ⟨q, hq, rfl, rfl, hcq, k0, k1, k2, k3, k69, k70, k71, k12, k13, k79, k80, k81⟩
  refine WC.on mixed rfl ?_
  simp -dsimp [k0, k1, k2, k3, k69, k70, k71, k12, k13, k79, k80, k81]
  refine WC.on mixed rfl ?_
  simp -dsimp
  have hpl := prs_len (rest.take q) f t l[i]
  rw [List.length_take] at hpl
  refine ⟨fun hltq => ?_, fun hgeq => ?_⟩
  rotate_left
  · have e : rest.take q = rest := List.take_of_length_le hgeq
    rw [e] at hcq
    have hn := hnext hcq
    repeat' first
      | refine WC.on mixed rfl ?_
      | (refine new_block fun b hb => ?_; try simp at hb)
      | simp -dsimp [k0, k1, k2, k3, k69, k70, k71, k12, k13, k79, k80, k81]
      | simp -dsimp (disch := omega) only [w64]
      | refine And.intro (by omega) ?_
      | simp -dsimp [*]
      | refine And.intro ?_ ?_
      | intro h
      | done
    exact Round.go (l.length - (i + 1)) [] (by omega) (Sub.nil _) ⟨i + 1, by omega, rfl, rfl, hn, by simp -dsimp [k0, k1, k2, k3, k69, k70, k71, k12, k13, k79, k80, k81]⟩
  obtain ⟨hq', hqe⟩ := hget q hltq
  have hso := List.pairwise_iff_getElem.1 hsort i (i + 1 + q) hlt hq' (by omega)
  rw [← hqe] at hso
  have hn1 := hnn i hlt
  have hn2 := (hform (i + 1 + q) hq').2.1
  rw [← hqe] at hn2
  clear hqe hget
  have hps := prs_succ rest f t l[i] hltq
  cases hpa : pas f t l[i] rest[q]
  · have hpa' : ¬ (f ≤ l[i].ti ∧ rest[q].ti < t ∧ rest[q].un = l[i].un) := by
      intro h
      simp [pas, h.1, h.2.1, h.2.2] at hpa
    rw [hpa] at hps
    simp only [Bool.false_eq_true, if_false, List.append_nil] at hps
    repeat' first
      | refine WC.on mixed rfl ?_
      | (refine new_block fun b hb => ?_; try simp at hb)
      | simp -dsimp [k0, k1, k2, k3, k69, k70, k71, k12, k13, k79, k80, k81, hltq]
      | simp -dsimp (disch := omega) only [w64]
      | refine And.intro (by omega) ?_
      | simp -dsimp [*]
      | refine And.intro ?_ ?_
      | intro h
      | done
    all_goals first
      | (exfalso; omega)
      | exact Round.go (rest.length - (q + 1)) [(⟨b12, 3, 3⟩, [l[i].lv])] (by omega) (Sub.skip _ (Sub.refl _)) ⟨q + 1, by omega, rfl, rfl, by rw [hps]; exact hcq, by simp -dsimp [hps, k0, k1, k2, k3, k69, k70, k71, k12, k13, k79, k80, k81]⟩
  · have hpa' : (f ≤ l[i].ti ∧ rest[q].ti < t) ∧ rest[q].un = l[i].un := by simpa [pas] using hpa
    obtain ⟨⟨d1, d2⟩, d3⟩ := hpa'
    rw [hpa] at hps
    simp only [if_true] at hps
    obtain ⟨o1, o2⟩ := (hform i hlt).2.2 (by simp [inn, d1]; omega)
    obtain ⟨u, hu⟩ := Int.eq_ofNat_of_zero_le o1
    have hul : u < js.length := by omega
    have eP : peO js l[i] = js[u].pe := by simp [peO, hu, hul]
    have eJ : jiO js l[i] = js[u].ji := by simp [jiO, hu, hul]
    obtain ⟨⟨⟨p0, p1⟩, _, ⟨j0, j1⟩, _⟩, _⟩ := hv.get hul
    have hcnt : (((prs (rest.take q) f t l[i]).length : Int) + 1) ≤ 1001 := by omega
    have hp0 : 0 ≤ (((prs (rest.take q) f t l[i]).length : Int) + 1) * js[u].pe := Int.mul_nonneg (by omega) (by omega)
    have hp1 : (((prs (rest.take q) f t l[i]).length : Int) + 1) * js[u].pe ≤ 1001 * 16777216 := Int.mul_le_mul hcnt p1 (by omega) (by omega)
    by_cases hc : (((prs (rest.take q) f t l[i]).length : Int) + 1) * js[u].pe - js[u].ji ≤ rest[q].ti - l[i].ti
    rotate_left
    · have hng : ¬ gaps js l f t := hno fun h => by
        have h2 := conR_take h (q + 1)
        rw [hps] at h2
        have h3 := conR_last h2
        rw [eP, eJ] at h3
        exact hc h3
      repeat' first
        | refine WC.on mixed rfl ?_
        | (refine new_block fun b hb => ?_; try simp at hb)
        | refine draw_plan 18 [] [(0, 0), (2, 0), (5, 0), (6, 0), (7, 0), (13, 0), (14, 0), (1, 1), (3, 1), (4, 0), (8, 1), (9, 0), (10, 0), (11, 1), (12, 0), (15, 1), (16, 0), (17, 0), (18, 1), (19, 0), (20, 0)] (by kernel_rfl) rfl ?_
        | refine plan_nil ?_
        | refine plan_none rfl (by simp) ?_
        | refine plan_some rfl rfl (by simp) ?_
        | simp -dsimp [k0, k1, k2, k3, k69, k70, k71, k12, k13, k79, k80, k81, hltq, hu, hul, d3]
        | simp -dsimp (disch := omega) only [w64]
        | refine And.intro (by omega) ?_
        | simp -dsimp [*]
        | refine And.intro ?_ ?_
        | intro h
        | done
      all_goals first
        | (exfalso; omega)
        | exact hng (by assumption)
        | (simp [hng]; done)
    · have hcq' : conR js l[i] (prs (rest.take (q + 1)) f t l[i]) := by
        rw [hps]
        refine conR_snoc hcq ?_
        rw [eP, eJ]
        exact hc
      repeat' first
        | refine WC.on mixed rfl ?_
        | (refine new_block fun b hb => ?_; try simp at hb)
        | refine draw_plan 18 [] [(0, 0), (2, 0), (5, 0), (6, 0), (7, 0), (13, 0), (14, 0), (1, 1), (3, 1), (4, 0), (8, 1), (9, 0), (10, 0), (11, 1), (12, 0), (15, 1), (16, 0), (17, 0), (18, 1), (19, 0), (20, 0)] (by kernel_rfl) rfl ?_
        | refine plan_nil ?_
        | refine plan_none rfl (by simp) ?_
        | refine plan_some rfl rfl (by simp) ?_
        | simp -dsimp [k0, k1, k2, k3, k69, k70, k71, k12, k13, k79, k80, k81, hltq, hu, hul, d3]
        | simp -dsimp (disch := omega) only [w64]
        | refine And.intro (by omega) ?_
        | simp -dsimp [*]
        | refine And.intro ?_ ?_
        | intro h
        | done
      all_goals first
        | (exfalso; omega)
        | exact Round.go (rest.length - (q + 1)) _ (by omega) (Sub.skip _ (Sub.refl _)) ⟨q + 1, by omega, rfl, by simp [hu], hcq', by simp -dsimp [hps, k0, k1, k2, k3, k69, k70, k71, k12, k13, k79, k80, k81]⟩
        | trace_state
end Go.Proofs.Ytjamehpnclkjdaa
