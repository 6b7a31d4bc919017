/- The check of a list of disturbances. It bears no statement of its own. -/
import Derived.Test.YtjamehpnclkjdaaR5
namespace Go.Proofs.Ytjamehpnclkjdaa
open Go Go.Ls
set_option linter.unusedVariables false
set_option linter.unusedSimpArgs false
set_option maxRecDepth 100000
attribute [local irreducible] Box drawF

def prevT (l : List Db) : Nat → Int
  | 0 => 0
  | j + 1 => ((l[j]?).map Db.t).getD 0
def formedB (l : List Db) (i : Nat) : Bool := (List.range i).all fun j => match l[j]? with
  | some d => decide (formedP d (prevT l j))
  | none => true
theorem formedB_succ (l : List Db) (i : Nat) (h : i < l.length) : formedB l (i + 1) = (formedB l i && decide (formedP l[i] (prevT l i))) := by
  simp [formedB, List.range_succ, h]
theorem formedB_le {l : List Db} {i j : Nat} (h : i ≤ j) (hj : formedB l j = true) : formedB l i = true := by
  simp only [formedB, List.all_eq_true, List.mem_range] at hj ⊢
  exact fun k hk => hj k (by omega)
theorem formedB_times {l : List Db} (h : formedB l l.length = true) : Times l := by
  intro d hd
  obtain ⟨i, hi, rfl⟩ := List.getElem_of_mem hd
  have := formedB_le (i := i + 1) hi h
  rw [formedB_succ l i hi] at this
  simp only [Bool.and_eq_true, decide_eq_true_eq] at this
  exact this.2.1
def apartAll (x : Rt) (l : List Db) : Bool := apartB (tms l 1) x.di 1 && apartB (tms l 2) x.pe 1 && apartB (tms l 3) x.wi x.er
def checkV (x : Rt) (l : List Db) : Int := if ¬ validR x ∨ 200 < l.length then 10 else if formedB l l.length = false then 10 else if apartAll x l then 0 else 39

theorem check28 (x : Rt) (l : List Db) (hl : l.length ≤ 16777216) : Pure Try.prog 28 [x.lv, .ro 5 (l.map Db.lv)] (I (checkV x l)) := by
  refine lcalls_go (rts := [.tmp 4]) Try.func28 rfl rfl rfl rfl rfl ?_
  repeat' first
    | refine WC.on mixed rfl ?_
    | (refine new_block fun b hb => ?_; try simp at hb)
    | refine call_pure (valid26 _) ?_
    | simp -dsimp []
    | simp -dsimp (disch := omega) only [w64]
    | refine And.intro (by omega) ?_
    | simp -dsimp [*]
    | refine And.intro (fun h => ?_) (fun h => ?_)
    | intro h
    | done
  · simp [checkV, h]
  · have hlen : 200 < l.length := by omega
    simp [checkV, hlen]
  have hv : validR x := by assumption
  have hlen : l.length ≤ 200 := by omega
  have e1 : checkV x l = if formedB l l.length = false then 10 else if apartAll x l then 0 else 39 := by
    unfold checkV
    rw [if_neg (fun h => h.elim (fun h => h hv) (fun h => by omega))]
  rw [e1]
  refine WC.loop (fun m fr σ => ∃ i : Nat, i ≤ l.length ∧ m = l.length - i ∧ σ = [(⟨b, 6, 6⟩, [x.lv])] ∧ formedB l i = true ∧ fr 1 = .ro 5 (l.map Db.lv) ∧ fr 2 = .ref ⟨b, 6, 6⟩ 0 0 ∧ fr 5 = I (prevT l i) ∧ fr 18 = .ro 5 (l.map Db.lv) ∧ fr 19 = I l.length ∧ fr 20 = I i) l.length ⟨0, by simp -dsimp [formedB, prevT]⟩ ?_
  rintro m fr σ ⟨i, hi, rfl, rfl, hf, h1, h2, h5, h18, h19, h20⟩
  refine WC.on mixed rfl ?_
  simp -dsimp [h1, h2, h5, h18, h19, h20]
  refine WC.on mixed rfl ?_
  simp -dsimp
  refine ⟨fun hlt => ?_, fun hge => ?_⟩
  · have hs := formedB_succ l i hlt
    repeat' first
      | refine WC.on mixed rfl ?_
      | (refine new_block fun b hb => ?_; try simp at hb)
      | refine call_pure (formed52 _ _) ?_
      | simp -dsimp [h1, h2, h5, h18, h19, h20, hlt]
      | simp -dsimp (disch := omega) only [w64]
      | refine And.intro (by omega) ?_
      | simp -dsimp [*]
      | refine And.intro (fun h => ?_) (fun h => ?_)
      | intro h
      | done
    · exfalso
      have := formedB_le (i := i + 1) hlt h
      rw [hs, Bool.and_eq_true, decide_eq_true_eq] at this
      exact (by assumption : ¬ formedP l[i] (prevT l i)) this.2
    · have hn := h
      exact Round.go (l.length - (i + 1)) [(_, [x.lv])] (by omega) (Sub.skip _ (Sub.refl _)) ⟨i + 1, hlt, rfl, rfl, by rw [hs]; simp [hf, hn], by simp -dsimp [h1, h2, h5, h18, h19, h20, prevT, hlt]⟩
  · have hi : i = l.length := by omega
    subst hi
    have ht := formedB_times hf
    rw [if_neg (by simp [hf])]
    repeat' first
      | refine WC.on mixed rfl ?_
      | (refine new_block fun b hb => ?_; try simp at hb)
      | (refine call_new (parts53 _ _) ?_; rintro _ _ ⟨c, rfl, rfl⟩)
      | simp -dsimp [h1, h2, h5, h18, h19, h20]
      | simp -dsimp (disch := omega) only [w64]
      | refine And.intro (by omega) ?_
      | simp -dsimp [*]
      | refine And.intro (fun h => ?_) (fun h => ?_)
      | intro h
      | done
    refine WC.drop (τ := [(⟨c, 4, 12⟩, partsL x 0)]) (Sub.cons _ (Sub.nil _)) ?_
    have hv' := hv
    obtain ⟨⟨v1, v2⟩, ⟨v3, v4⟩, ⟨v5, v6⟩, ⟨v7, v8⟩, ⟨v9, v10⟩, ⟨v11, v12⟩, v13⟩ := hv'
    refine WC.loop (fun m fr σ => ∃ i : Nat, i ≤ 3 ∧ m = 3 - i ∧ σ = [(⟨c, 4, 12⟩, partsL x 0)] ∧ (1 ≤ i → apartB (tms l 1) x.di 1 = true) ∧ (2 ≤ i → apartB (tms l 2) x.pe 1 = true) ∧ (3 ≤ i → apartB (tms l 3) x.wi x.er = true) ∧ fr 1 = .ro 5 (l.map Db.lv) ∧ fr 32 = .msl ⟨c, 4, 12⟩ 0 3 ∧ fr 33 = I 3 ∧ fr 34 = I i) 3 ⟨0, by simp [h1]⟩ ?_
    rintro m fr σ ⟨i, hi, rfl, rfl, a1, a2, a3, k1, k32, k33, k34⟩
    have hi' : i = 0 ∨ i = 1 ∨ i = 2 ∨ i = 3 := by omega
    rcases hi' with rfl | rfl | rfl | rfl
    all_goals repeat' first
      | refine WC.on mixed rfl ?_
      | (refine new_block fun b hb => ?_; try simp at hb)
      | refine call_pure (apart54 l _ _ _ hl ht (by omega) (by omega) (by omega) (by omega)) ?_
      | simp -dsimp [k1, k32, k33, k34, partsL]
      | simp -dsimp (disch := omega) only [w64]
      | refine And.intro (by omega) ?_
      | simp -dsimp [*]
      | refine And.intro (fun h => ?_) (fun h => ?_)
      | intro h
      | done
    · simp [apartAll, h]
    · exact Round.go 2 [(_, partsL x 0)] (by omega) (Sub.skip _ (Sub.refl _)) ⟨1, by omega, rfl, rfl, fun _ => h, by omega, by omega, by simp -dsimp [k1, k32, k33]⟩
    · simp [apartAll, h]
    · exact Round.go 1 [(_, partsL x 0)] (by omega) (Sub.skip _ (Sub.refl _)) ⟨2, by omega, rfl, rfl, fun _ => a1 (by omega), fun _ => h, by omega, by simp -dsimp [k1, k32, k33]⟩
    · simp [apartAll, h]
    · exact Round.go 0 [(_, partsL x 0)] (by omega) (Sub.skip _ (Sub.refl _)) ⟨3, by omega, rfl, rfl, fun _ => a1 (by omega), fun _ => a2 (by omega), fun _ => h, by simp -dsimp [k1, k32, k33]⟩
    · simp [apartAll, a1 (by omega), a2 (by omega), a3 (by omega)]
end Go.Proofs.Ytjamehpnclkjdaa
