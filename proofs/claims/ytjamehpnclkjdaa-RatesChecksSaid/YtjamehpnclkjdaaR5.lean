/- How far apart: rates. It bears no statement of its own. -/
import Derived.Test.YtjamehpnclkjdaaR4
namespace Go.Proofs.Ytjamehpnclkjdaa
open Go Go.Ls
set_option linter.unusedVariables false
set_option linter.unusedSimpArgs false
set_option maxRecDepth 100000
attribute [local irreducible] Box drawF

theorem getD_lt {α : Type} (l : List α) (d : α) {i : Nat} (h : i < l.length) : l.getD i d = l[i] := by simp [List.getD, h]

/-- The times of one kind. -/
def tms (l : List Db) (k : Int) : List Int := (l.filter fun d => d.k = k).map Db.t
theorem tms_succ (l : List Db) (k : Int) (i : Nat) (h : i < l.length) : tms (l.take (i + 1)) k = tms (l.take i) k ++ if l[i].k = k then [l[i].t] else [] := by
  unfold tms
  rw [List.take_succ_eq_append_getElem h, List.filter_append, List.map_append]
  split <;> simp [*]
theorem tms_len (l : List Db) (k : Int) : (tms l k).length ≤ l.length := by
  unfold tms
  rw [List.length_map]
  exact List.length_filter_le _ _
def Times (l : List Db) : Prop := ∀ d ∈ l, 0 ≤ d.t ∧ d.t ≤ 16777216
theorem tms_ok {l : List Db} (h : Times l) (k : Int) (i : Nat) (hi : i < (tms l k).length) : 0 ≤ (tms l k)[i] ∧ (tms l k)[i] ≤ 16777216 := by
  have hm : (tms l k)[i] ∈ tms l k := List.getElem_mem hi
  simp only [tms, List.mem_map, List.mem_filter] at hm
  obtain ⟨d, ⟨hd, _⟩, e⟩ := hm
  have := h d hd
  rw [e] at this
  exact this

/-- Among times, every n + 1 one after the other lie so far apart. -/
def gapsB (ts : List Int) (n : Nat) (ap : Int) (i : Nat) : Bool := decide (∀ j < i, j + n < ts.length → ap ≤ ts.getD (j + n) 0 - ts.getD j 0)
def apartB (ts : List Int) (ap n : Int) : Bool := if ap = 0 ∨ n = 0 then decide (ts = []) else gapsB ts n.toNat ap ts.length

theorem apart54 (l : List Db) (k ap n : Int) (hl : l.length ≤ 16777216) (ht : Times l) (hn : 0 ≤ n) (hn' : n ≤ 16777216) (ha : -16777216 ≤ ap) (ha' : ap ≤ 16777216) :
    Pure Try.prog 54 [.ro 5 (l.map Db.lv), I k, I ap, I n] (Bo (apartB (tms l k) ap n)) := by
  refine lcalls_go (rts := [.tmp 8]) Try.func54 rfl rfl rfl rfl rfl ?_
  repeat' first
    | refine WC.on mixed rfl ?_
    | (refine new_block fun b hb => ?_; try simp at hb)
    | simp -dsimp []
    | simp -dsimp (disch := omega) only [w64]
    | refine And.intro (by omega) ?_
    | simp -dsimp [*]
    | refine And.intro (fun h => ?_) (fun h => ?_)
    | intro h
    | done
  refine WC.loop (fun m fr σ => ∃ (i : Nat) (v : LV), i ≤ l.length ∧ m = l.length - i ∧ Own 1 v ((tms (l.take i) k).map I) σ [] ∧ fr 1 = I k ∧ fr 2 = I ap ∧ fr 3 = I n ∧ fr 9 = v ∧ fr 13 = .ro 5 (l.map Db.lv) ∧ fr 14 = I l.length ∧ fr 15 = I i) l.length ⟨0, .val (.slice none 0 0), by simp [tms, Own.none]⟩ ?_
  rintro m fr σ ⟨i, v, hi, rfl, hown, h1, h2, h3, h9, h13, h14, h15⟩
  refine WC.on mixed rfl ?_
  simp -dsimp [h1, h2, h3, h9, h13, h14, h15]
  refine WC.on mixed rfl ?_
  simp -dsimp
  have hcl := tms_len (l.take i) k
  rw [List.length_take] at hcl
  refine ⟨fun hlt => ?_, fun hge => ?_⟩
  · have hc := tms_succ l k i hlt
    repeat' first
      | refine WC.on mixed rfl ?_
      | (refine new_block fun b hb => ?_; try simp at hb)
      | (refine app_lit _ [] ty_sl22 rfl rfl (hown.more _) (Sub.nil _) (fun _ _ _ => trivial) (by simp [maxLen]; omega) (by simp; omega) fun v2 σ2 hown2 => ?_)
      | simp -dsimp [h1, h2, h3, h9, h13, h14, h15, hlt]
      | simp -dsimp (disch := omega) only [w64]
      | refine And.intro (by omega) ?_
      | simp -dsimp [*]
      | refine And.intro (fun h => ?_) (fun h => ?_)
      | intro h
      | done
    · refine Round.go (l.length - (i + 1)) σ2 (by omega) (Sub.refl _) ⟨i + 1, v2, by omega, rfl, ?_, ?_⟩
      · rw [hc, if_pos (by assumption)]; simpa using hown2
      · simp -dsimp [h1, h2, h3, h9, h13, h14, h15]
    · refine Round.go (l.length - (i + 1)) σ (by omega) (Sub.skip _ (Sub.refl _)) ⟨i + 1, v, by omega, rfl, ?_, ?_⟩
      · rw [hc, if_neg (by assumption)]; simpa using hown
      · simp -dsimp [h1, h2, h3, h9, h13, h14, h15]
  · have : l.take i = l := List.take_of_length_le hge
    rw [this] at hown
    have hcl := tms_len l k
    refine WC.on mixed rfl ?_
    simp -dsimp
    refine WC.view 9 (y := .ro 1 ((tms l k).map I)) (τ := []) (by simpa -dsimp [h9] using View.own hown (by simp)) ?_
    have htm := tms_ok ht k
    generalize tms l k = ts at *
    repeat' first
      | refine WC.on mixed rfl ?_
      | (refine new_block fun b hb => ?_; try simp at hb)
      | simp -dsimp [h1, h2, h3, h13, h14, h15]
      | simp -dsimp (disch := omega) only [w64]
      | refine And.intro (by omega) ?_
      | simp -dsimp [*]
      | refine And.intro (fun h => ?_) (fun h => ?_)
      | intro h
      | done
    · simp [apartB]
    · simp [apartB]
    rename_i hap hn0
    have e0 : apartB ts ap n = gapsB ts n.toNat ap ts.length := by unfold apartB; rw [if_neg (by omega)]
    obtain ⟨q, rfl⟩ := Int.eq_ofNat_of_zero_le hn
    rw [Int.toNat_natCast] at e0
    rw [e0]
    clear hown h9
    refine WC.loop (fun m fr σ => ∃ j : Nat, j ≤ ts.length ∧ m = ts.length - j ∧ σ = [] ∧ gapsB ts q ap j = true ∧ fr 2 = I ap ∧ fr 3 = I q ∧ fr 9 = .ro 1 (ts.map I) ∧ fr 39 = I ts.length ∧ fr 40 = I j) ts.length ⟨0, by simp -dsimp [h2, h3, gapsB]⟩ ?_
    rintro m fr σ ⟨j, hj, rfl, rfl, hg, h2, h3, h9, h39, h40⟩
    refine WC.on mixed rfl ?_
    simp -dsimp [h2, h3, h9, h39, h40]
    refine WC.on mixed rfl ?_
    simp -dsimp
    have hs : ∀ jn, jn = j + 1 → (gapsB ts q ap jn = true ↔ (j + q < ts.length → ap ≤ ts.getD (j + q) 0 - ts.getD j 0)) := by
      rintro _ rfl
      simp only [gapsB, decide_eq_true_eq] at hg ⊢
      refine ⟨fun h => h j (by omega), fun h j' hj' => ?_⟩
      rcases Nat.lt_or_eq_of_le (Nat.le_of_lt_succ hj') with h1 | rfl
      · exact hg j' h1
      · exact h
    refine ⟨fun hlt => ?_, fun hge => ?_⟩
    · have tn : ((j : Int) + (q : Int)).toNat = j + q := by omega
      have hj0 := htm j hlt
      repeat' first
        | refine WC.on mixed rfl ?_
        | (refine new_block fun b hb => ?_; try simp at hb)
        | refine draw_plan 13 [] [(0, 0), (1, 0), (2, 0), (3, 0), (4, 0), (5, 0), (6, 0), (7, 0), (8, 0), (9, 0), (10, 0), (11, 0), (13, 0), (14, 0), (15, 0), (18, 0), (12, 1), (16, 1), (17, 0), (19, 0), (20, 0)] (by kernel_rfl) rfl ?_
        | refine plan_nil ?_
        | refine plan_none rfl (by simp) ?_
        | refine plan_some rfl rfl (by simp) ?_
        | simp -dsimp [h2, h3, h9, h39, h40, hlt, tn]
        | simp -dsimp (disch := omega) only [w64]
        | refine And.intro (by omega) ?_
        | simp -dsimp [*]
        | refine And.intro (fun h => ?_) (fun h => ?_)
        | intro h
        | done
      · have hq : j + q < ts.length := by omega
        have hj1 := htm (j + q) hq
        have hs' := hs (j + 1) rfl
        rw [getD_lt _ _ hq, getD_lt _ _ hlt] at hs'
        repeat' first
          | refine WC.on mixed rfl ?_
          | (refine new_block fun b hb => ?_; try simp at hb)
          | refine draw_plan 13 [] [(0, 0), (1, 0), (2, 0), (3, 0), (4, 0), (5, 0), (6, 0), (7, 0), (8, 0), (9, 0), (10, 0), (11, 0), (13, 0), (14, 0), (15, 0), (18, 0), (12, 1), (16, 1), (17, 0), (19, 0), (20, 0)] (by kernel_rfl) rfl ?_
          | refine plan_nil ?_
          | refine plan_none rfl (by simp) ?_
          | refine plan_some rfl rfl (by simp) ?_
          | simp -dsimp [h2, h3, h9, h39, h40, hlt, tn, hq]
          | simp -dsimp (disch := omega) only [w64]
          | refine And.intro (by omega) ?_
          | simp -dsimp [*]
          | refine And.intro (fun h => ?_) (fun h => ?_)
          | intro h
          | done
        · rename_i hlt'
          cases hb : gapsB ts q ap ts.length with
          | false => rfl
          | true =>
            simp only [gapsB, decide_eq_true_eq] at hb
            have := hb j hlt hq
            rw [getD_lt _ _ hq, getD_lt _ _ hlt] at this
            omega
        · exact Round.go (ts.length - (j + 1)) [] (by omega) (Sub.nil _) ⟨j + 1, by omega, rfl, rfl, hs'.2 fun _ => by omega, by simp -dsimp [h2, h3, h9, h39, h40]⟩
      · exact Round.go (ts.length - (j + 1)) [] (by omega) (Sub.nil _) ⟨j + 1, by omega, rfl, rfl, (hs (j + 1) rfl).2 fun _ => by omega, by simp -dsimp [h2, h3, h9, h39, h40]⟩
    · have : j = ts.length := by omega
      subst this
      repeat' first
        | refine WC.on mixed rfl ?_
        | (refine new_block fun b hb => ?_; try simp at hb)
        | simp -dsimp [h2, h3, h9, h39, h40]
        | simp -dsimp (disch := omega) only [w64]
        | refine And.intro (by omega) ?_
        | simp -dsimp [*]
        | refine And.intro (fun h => ?_) (fun h => ?_)
        | intro h
        | done
      all_goals first
        | exact hg.symm
        | exact hg
end Go.Proofs.Ytjamehpnclkjdaa
