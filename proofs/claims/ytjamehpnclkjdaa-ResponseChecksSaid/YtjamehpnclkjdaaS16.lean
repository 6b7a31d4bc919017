/- By how much a cost can be raised. It bears no statement of its own. -/
import Derived.Test.YtjamehpnclkjdaaS12
namespace Go.Proofs.Ytjamehpnclkjdaa
open Go Go.Ls
set_option linter.unusedVariables false
set_option linter.unusedSimpArgs false
set_option maxRecDepth 100000
attribute [local irreducible] Box drawF

theorem View.boxAt {σ τ : Heap} {B : Blk} {x : LV} (hp : Sub ((B, [x]) :: τ) σ) (ho : x.cells.all LV.one = true) : View σ τ (.ref B 0 0) (.adr x.cells) := by
  refine View.adr hp (i := 0) (j := 0) (x := x) rfl (by simp) fun l c d hc hd => ?_
  rw [Nat.zero_add, hd] at hc
  cases hc
  exact ⟨List.all_eq_true.1 ho _ (List.mem_of_getElem? hd), View.of_sub ((Sub.skip _ (Sub.refl _)).trans hp)⟩
theorem Jb.ones (l : List Jb) : ∀ x ∈ l.map Jb.lv, x.cells.all LV.one = true := by
  intro x hx
  obtain ⟨j, _, rfl⟩ := List.mem_map.1 hx
  rfl

/-- A job with another cost. -/
def wcj (j : Jb) (c : Int) : Jb := ⟨j.pe, j.de, j.ji, j.pr, c, j.se, j.ev⟩
@[simp] theorem wcj_co (j : Jb) (c : Int) : (wcj j c).co = c := rfl
@[simp] theorem wcj_wcj (j : Jb) (c d : Int) : wcj (wcj j c) d = wcj j d := rfl
theorem wcj_self (j : Jb) : wcj j j.co = j := rfl
/-- Jobs of which one has another cost. -/
def rse (l : List Jb) (i : Nat) (c : Int) : List Jb := match l[i]? with
  | some j => l.set i (wcj j c)
  | none => l
theorem rse_eq {l : List Jb} {i : Nat} (h : i < l.length) (c : Int) : rse l i c = l.set i (wcj l[i] c) := by
  unfold rse
  rw [List.getElem?_eq_getElem h]
@[simp] theorem rse_len (l : List Jb) (i : Nat) (c : Int) : (rse l i c).length = l.length := by
  unfold rse
  split <;> simp
theorem rse_self {l : List Jb} {i : Nat} (h : i < l.length) : rse l i l[i].co = l := by
  rw [rse_eq h, wcj_self, List.set_getElem_self]
theorem rse_get {l : List Jb} {i : Nat} (h : i < l.length) (c : Int) (h' : i < (rse l i c).length) : (rse l i c)[i] = wcj l[i] c := by
  simp only [rse_eq h, List.getElem_set_self]
theorem rse_fit {l : List Jb} (h : Fit l) (i : Nat) (c : Int) : Fit (rse l i c) := by
  refine ⟨by rw [rse_len]; exact h.1, fun j hj => ?_⟩
  unfold rse at hj
  split at hj
  · rename_i j0 hj0
    rcases List.mem_or_eq_of_mem_set hj with hj | rfl
    · exact h.2 j hj
    · exact h.2 j0 (List.mem_of_getElem? hj0)
  · exact h.2 j hj
/-- The cells of a block of jobs, with another cost of one. -/
theorem rse_set {l : List Jb} {i : Nat} (h : i < l.length) (c d : Int) : ((rse l i c).map Jb.lv).set i (wcj l[i] d).lv = (rse l i d).map Jb.lv := by
  rw [rse_eq h, rse_eq h, ← List.map_set, List.set_set]
theorem rse_set0 {l : List Jb} {i : Nat} (h : i < l.length) (d : Int) : (l.map Jb.lv).set i (wcj l[i] d).lv = (rse l i d).map Jb.lv := by
  rw [rse_eq h, ← List.map_set]
def fitB (l : List Jb) (x : Rt) (ins miss : Int) (i : Nat) (n : Int) : Bool := decide ((allV (rse l i (coOf l i + n)) x ins miss).1 = 0)
theorem fitB_eq {l : List Jb} {x : Rt} {ins miss : Int} {i : Nat} {n : Int} (h : i < l.length) : fitB l x ins miss i n = decide ((allV (rse l i (l[i].co + n)) x ins miss).1 = 0) := by rw [fitB, coOf_eq h]
theorem fitB_big {l : List Jb} {x : Rt} {ins miss : Int} {i : Nat} {n : Int} (h : i < l.length) (hn : 16777216 < l[i].co + n) : fitB l x ins miss i n = false := by
  rw [fitB_eq h]
  have : ¬ okC (rse l i (l[i].co + n)) x ins miss := fun hc => by
    have := (hc.1.get (i := i) (by rw [rse_len]; exact h)).1.2.2.2.2.1
    rw [rse_get h] at this
    rw [wcj_co] at this
    omega
  rw [allV, if_neg this]
  rfl
theorem fitB_zero {l : List Jb} {x : Rt} {ins miss : Int} {i : Nat} (h : i < l.length) : fitB l x ins miss i 0 = decide ((allV l x ins miss).1 = 0) := by
  rw [fitB_eq h, Int.add_zero, rse_self h]
def SlackR (l : List Jb) (x : Rt) (ins miss i : Int) (r : LV) (σ : Heap) : Prop :=
  if okC l x ins miss ∧ 0 ≤ i ∧ i < l.length then if fitB l x ins miss i.toNat 0 = true then ∃ n, r = .tup [I n, I 0] ∧ 0 ≤ n ∧ n ≤ 16777216 ∧ fitB l x ins miss i.toNat n = true ∧ fitB l x ins miss i.toNat (n + 1) = false else r = .tup [I 0, I 38]
  else r = .tup [I 0, I 40]

set_option maxHeartbeats 1000000 in
theorem fits65 (l : List Jb) (x : Rt) (ins miss : Int) (i : Nat) (n c : Int) (R : Nat) (room : Nat) (hl : Fit l) (hi : i < l.length) (hn : 0 ≤ l[i].co + n) (hn' : l[i].co + n ≤ 1099511627776) :
    LCalls Try.prog 65 [I n, .adr [.ro 7 (l.map Jb.lv)], .adr [I i], .adr [.msl ⟨R, 7, room⟩ 0 l.length], .adr x.lv.cells, .adr [I ins], .adr [I miss]] [(⟨R, 7, room⟩, (rse l i c).map Jb.lv)]
      fun r σ => r = Bo (fitB l x ins miss i n) ∧ σ = [(⟨R, 7, room⟩, (rse l i (l[i].co + n)).map Jb.lv)] := by
  have hf := fitB_eq (x := x) (ins := ins) (miss := miss) (n := n) hi
  have hs := rse_set hi c (l[i].co + n)
  have hg := rse_get hi c (by simpa using hi)
  simp only [wcj, Jb.lv] at hs
  have hfit := rse_fit hl i (l[i].co + n)
  have hil : i < (rse l i c).length := by simpa using hi
  refine lcalls_go (rts := [.tmp 8]) Try.func65 rfl rfl rfl rfl rfl ?_
  refine WC.on mixed rfl ?_
  repeat' first
    | (refine new_block fun b hb => ?_; try simp at hb)
    | simp -dsimp []
    | simp -dsimp (disch := omega) only [w64]
    | refine And.intro (by omega) ?_
    | simp -dsimp [*]
    | refine And.intro ?_ ?_
    | intro h
    | done
  refine WC.on mixed rfl ?_
  repeat' first
    | (refine new_block fun b hb => ?_; try simp at hb)
    | refine draw_plan 1 [] [(7, 0), (0, 1), (1, 1), (2, 1), (3, 1), (4, 0), (5, 0), (6, 1), (8, 0), (9, 0), (10, 0), (11, 3)] (by kernel_rfl) rfl ?_
    | refine plan_nil ?_
    | refine plan_none rfl (by simp) ?_
    | refine plan_some rfl rfl (by simp) ?_
    | simp -dsimp [hi, hil, hg, wcj, hs]
    | simp -dsimp (disch := omega) only [w64]
    | refine And.intro (by omega) ?_
    | simp -dsimp [*]
    | refine And.intro ?_ ?_
    | intro h
    | done
  repeat' first
    | refine WC.on mixed rfl ?_
    | (refine new_block fun b hb => ?_; try simp at hb)
    | (refine call_lend [(⟨R, 7, room⟩, (rse l i (l[i].co + n)).map Jb.lv)] [] (List.Perm.refl _) (fun _ _ => trivial) (ys := [.ro 7 ((rse l i (l[i].co + n)).map Jb.lv), x.lv, I ins, I miss]) ⟨View.lit rfl (by simp) (Jb.ones _) (Sub.refl _), View.of_sub (Sub.nil _), View.of_sub (Sub.nil _), View.of_sub (Sub.nil _), trivial⟩ (all38 _ x ins miss hfit) (fun r σ h => h.plain) ?_; rintro _ σ1 ⟨v, rfl, hown⟩)
    | simp -dsimp []
    | simp -dsimp (disch := omega) only [w64]
    | refine And.intro (by omega) ?_
    | simp -dsimp [*]
    | refine And.intro ?_ ?_
    | intro h
    | done
  exact Sub.skips σ1

set_option maxHeartbeats 2000000 in
theorem slack41 (l : List Jb) (x : Rt) (i ins miss : Int) (hl : Fit l) : LCalls Try.prog 41 [.ro 7 (l.map Jb.lv), x.lv, I ins, I miss, I i] [] (SlackR l x ins miss i) := by
  have hl0 := hl.1
  refine lcalls_go (rts := [.tmp 10, .tmp 11]) Try.func41 rfl rfl rfl rfl rfl ?_
  refine WC.on mixed rfl ?_
  repeat' first
    | (refine new_block fun b hb => ?_; try simp at hb)
    | simp -dsimp []
    | simp -dsimp (disch := omega) only [w64]
    | refine And.intro (by omega) ?_
    | simp -dsimp [*]
    | refine And.intro ?_ ?_
    | intro h
    | done
  rename_i b5 _ b6 _ b7 _ b8 _
  have hnb := hb
  refine WC.view 5 (y := .adr [.ro 7 (l.map Jb.lv)]) (τ := [(⟨b, 1, 1⟩, [I i]), (⟨b8, 1, 1⟩, [I miss]), (⟨b7, 1, 1⟩, [I ins]), (⟨b6, 6, 6⟩, [x.lv])]) (by simp -dsimp; exact View.boxAt (x := .ro 7 (l.map Jb.lv)) (Sub.pick [_, _, _, _] (Sub.refl _)) rfl) ?_
  refine WC.view 6 (y := .adr x.lv.cells) (τ := [(⟨b, 1, 1⟩, [I i]), (⟨b8, 1, 1⟩, [I miss]), (⟨b7, 1, 1⟩, [I ins])]) (by simp -dsimp; exact View.boxAt (x := x.lv) (Sub.pick [_, _, _] (Sub.refl _)) rfl) ?_
  refine WC.view 7 (y := .adr [I ins]) (τ := [(⟨b, 1, 1⟩, [I i]), (⟨b8, 1, 1⟩, [I miss])]) (by simp -dsimp; exact View.boxAt (x := I ins) (Sub.pick [_, _] (Sub.refl _)) rfl) ?_
  refine WC.view 8 (y := .adr [I miss]) (τ := [(⟨b, 1, 1⟩, [I i])]) (by simp -dsimp; exact View.boxAt (x := I miss) (Sub.pick [_] (Sub.refl _)) rfl) ?_
  refine WC.view 9 (y := .adr [I i]) (τ := []) (by simp -dsimp; exact View.boxAt (x := I i) (Sub.refl _) rfl) ?_
  clear hnb hb
  by_cases hok : okC l x ins miss ∧ 0 ≤ i ∧ i < l.length
  rotate_left
  · have e : SlackR l x ins miss i (.tup [I 0, I 40]) [] := by unfold SlackR; rw [if_neg hok]
    by_cases hc : okC l x ins miss
    · repeat' first
        | refine WC.on mixed rfl ?_
        | (refine new_block fun b hb => ?_; try simp at hb)
        | refine call_pure (check60 l x ins miss hl) ?_
        | simp -dsimp [hc]
        | simp -dsimp (disch := omega) only [w64]
        | refine And.intro (by omega) ?_
        | simp -dsimp [*]
        | refine And.intro ?_ ?_
        | intro h
        | done
      all_goals first
        | (exfalso; exact hok ⟨hc, by omega, by omega⟩)
        | exact ⟨[], Sub.nil _, e⟩
    · repeat' first
        | refine WC.on mixed rfl ?_
        | (refine new_block fun b hb => ?_; try simp at hb)
        | refine call_pure (check60 l x ins miss hl) ?_
        | simp -dsimp [hc]
        | simp -dsimp (disch := omega) only [w64]
        | refine And.intro (by omega) ?_
        | simp -dsimp [*]
        | refine And.intro ?_ ?_
        | intro h
        | done
      all_goals exact ⟨[], Sub.nil _, e⟩
  obtain ⟨hc, hi0, hi1⟩ := id hok
  obtain ⟨i, rfl⟩ := Int.eq_ofNat_of_zero_le hi0
  have hi : i < l.length := by omega
  have hS : ∀ r, SlackR l x ins miss i r [] ↔ if fitB l x ins miss i 0 = true then ∃ n, r = .tup [I n, I 0] ∧ 0 ≤ n ∧ n ≤ 16777216 ∧ fitB l x ins miss i n = true ∧ fitB l x ins miss i (n + 1) = false else r = .tup [I 0, I 38] := fun r => by
    unfold SlackR
    rw [if_pos hok, Int.toNat_natCast]
  have hco := (hc.1.get hi).1.2.2.2.2.1
  have hlen := hc.1.1
  refine WC.on mixed rfl ?_
  repeat' first
    | (refine new_block fun b hb => ?_; try simp at hb)
    | refine call_pure (check60 l x ins miss hl) ?_
    | simp -dsimp [hc, hi]
    | simp -dsimp (disch := omega) only [w64]
    | refine And.intro (by omega) ?_
    | simp -dsimp [*]
    | refine And.intro ?_ ?_
    | intro h
    | done
  refine WC.on mixed rfl ?_
  repeat' first
    | (refine new_block fun b hb => ?_; try simp at hb)
    | refine call_pure (check60 l x ins miss hl) ?_
    | simp -dsimp [hc, hi]
    | simp -dsimp (disch := omega) only [w64]
    | refine And.intro (by omega) ?_
    | simp -dsimp [*]
    | refine And.intro ?_ ?_
    | intro h
    | done
  refine WC.on mixed rfl ?_
  repeat' first
    | (refine new_block fun b hb => ?_; try simp at hb)
    | refine call_pure (check60 l x ins miss hl) ?_
    | simp -dsimp [hc, hi]
    | simp -dsimp (disch := omega) only [w64]
    | refine And.intro (by omega) ?_
    | simp -dsimp [*]
    | refine And.intro ?_ ?_
    | intro h
    | done
  all_goals try (exfalso; omega)
  refine WC.on mixed rfl ?_
  repeat' first
    | (refine new_block fun b hb => ?_; try simp at hb)
    | (refine app_cons ty_sl25 _ (HV.refl _) [] (l.map Jb.lv) [] (Own.none _ _) (.inl rfl) (Sub.refl _) (fun _ _ e => by cases e) (by simp [maxLen]; omega) (by simp; omega) (by intro h; simp at h; subst h; simp at hi) fun R room => ?_)
    | simp -dsimp [hc, hi]
    | simp -dsimp (disch := omega) only [w64]
    | refine And.intro (by omega) ?_
    | simp -dsimp [*]
    | refine And.intro ?_ ?_
    | intro h
    | done
  refine WC.view 12 (y := .adr [.msl ⟨R, 7, room⟩ 0 l.length]) (τ := [(⟨R, 7, room⟩, (rse l i l[i].co).map Jb.lv)]) (by simp -dsimp; rw [rse_self hi]; exact View.boxAt (x := .msl ⟨R, 7, room⟩ 0 l.length) (Sub.refl _) rfl) ?_
  refine WC.on mixed rfl ?_
  repeat' first
    | (refine new_block fun b hb => ?_; try simp at hb)
    | simp -dsimp [hc, hi]
    | simp -dsimp (disch := omega) only [w64]
    | refine And.intro (by omega) ?_
    | simp -dsimp [*]
    | refine And.intro ?_ ?_
    | intro h
    | done
  cases h0 : fitB l x ins miss i 0
  · have hS' : SlackR l x ins miss i (.tup [I 0, I 38]) [] := by rw [hS, h0]; simp
    repeat' first
      | refine WC.on mixed rfl ?_
      | (refine new_block fun b hb => ?_; try simp at hb)
      | (refine call_split [(⟨R, 7, room⟩, (rse l i _).map Jb.lv)] [] (List.Perm.refl _) (fun _ _ => trivial) (fits65 l x ins miss i _ _ R room hl hi (by omega) (by omega)) ?_; rintro _ _ ⟨rfl, rfl⟩)
      | simp -dsimp [hc, hi, h0]
      | simp -dsimp (disch := omega) only [w64]
      | refine And.intro (by omega) ?_
      | simp -dsimp [*]
      | refine And.intro ?_ ?_
      | intro h
      | done
    all_goals exact ⟨[], Sub.nil _, hS'⟩
  refine WC.on mixed rfl ?_
  repeat' first
    | (refine new_block fun b hb => ?_; try simp at hb)
    | (refine call_split [(⟨R, 7, room⟩, (rse l i _).map Jb.lv)] [] (List.Perm.refl _) (fun _ _ => trivial) (fits65 l x ins miss i _ _ R room hl hi (by omega) (by omega)) ?_; rintro _ _ ⟨rfl, rfl⟩)
    | simp -dsimp [hc, hi, h0]
    | simp -dsimp (disch := omega) only [w64]
    | refine And.intro (by omega) ?_
    | simp -dsimp [*]
    | refine And.intro ?_ ?_
    | intro h
    | done
  refine WC.on mixed rfl ?_
  repeat' first
    | (refine new_block fun b hb => ?_; try simp at hb)
    | (refine call_split [(⟨R, 7, room⟩, (rse l i _).map Jb.lv)] [] (List.Perm.refl _) (fun _ _ => trivial) (fits65 l x ins miss i _ _ R room hl hi (by omega) (by omega)) ?_; rintro _ _ ⟨rfl, rfl⟩)
    | simp -dsimp [hc, hi, h0]
    | simp -dsimp (disch := omega) only [w64]
    | refine And.intro (by omega) ?_
    | simp -dsimp [*]
    | refine And.intro ?_ ?_
    | intro h
    | done
  refine WC.on mixed rfl ?_
  repeat' first
    | (refine new_block fun b hb => ?_; try simp at hb)
    | (refine call_split [(⟨R, 7, room⟩, (rse l i _).map Jb.lv)] [] (List.Perm.refl _) (fun _ _ => trivial) (fits65 l x ins miss i _ _ R room hl hi (by omega) (by omega)) ?_; rintro _ _ ⟨rfl, rfl⟩)
    | simp -dsimp [hc, hi, h0]
    | simp -dsimp (disch := omega) only [w64]
    | refine And.intro (by omega) ?_
    | simp -dsimp [*]
    | refine And.intro ?_ ?_
    | intro h
    | done
  repeat' first
    | refine WC.on mixed rfl ?_
    | (refine new_block fun b hb => ?_; try simp at hb)
    | refine draw_plan 7 [] [(7, 0), (0, 1), (1, 1), (2, 0), (3, 0), (4, 1), (5, 0), (6, 0), (8, 0)] (by kernel_rfl) rfl ?_
    | refine plan_nil ?_
    | refine plan_none rfl (by simp) ?_
    | refine plan_some rfl rfl (by simp) ?_
    | (refine call_split [(⟨R, 7, room⟩, (rse l i _).map Jb.lv)] [] (List.Perm.refl _) (fun _ _ => trivial) (fits65 l x ins miss i _ _ R room hl hi (by omega) (by omega)) ?_; rintro _ _ ⟨rfl, rfl⟩)
    | simp -dsimp [hc, hi, h0]
    | simp -dsimp (disch := omega) only [w64]
    | refine And.intro (by omega) ?_
    | simp -dsimp [*]
    | refine And.intro ?_ ?_
    | intro h
    | done
  have hbig := fitB_big (x := x) (ins := ins) (miss := miss) (n := 16777216 - l[i].co + 1) hi (by omega)
  refine WC.loop (fun m fr σ => ∃ lo hg c : Int, (0 ≤ lo ∧ lo < hg ∧ hg ≤ 16777216 - l[i].co + 1) ∧ m = (hg - lo).toNat ∧ fitB l x ins miss i lo = true ∧ fitB l x ins miss i hg = false ∧ σ = [(⟨R, 7, room⟩, (rse l i c).map Jb.lv)] ∧ fr 13 = .fn 65 [.adr [.ro 7 (l.map Jb.lv)], .adr [I i], .adr [.msl ⟨R, 7, room⟩ 0 l.length], .adr x.lv.cells, .adr [I ins], .adr [I miss]] ∧ fr 14 = I lo ∧ fr 15 = I hg) (16777216 - l[i].co + 1 - 0).toNat
    ⟨0, 16777216 - l[i].co + 1, _, by omega, rfl, h0, hbig, rfl, by (simp -dsimp; simp -dsimp (disch := omega) only [w64])⟩ ?_
  rintro m fr σ ⟨lo, hg, c, ⟨g0, g1, g2⟩, rfl, f0, f1, rfl, k13, k14, k15⟩
  have hmid : (lo + hg).tdiv 2 = (lo + hg) / 2 := Int.tdiv_eq_ediv_of_nonneg (by omega)
  by_cases hgt : 1 < hg - lo
  · cases hf : fitB l x ins miss i ((lo + hg) / 2)
    · repeat' first
        | refine WC.on mixed rfl ?_
        | (refine new_block fun b hb => ?_; try simp at hb)
        | (refine call_split [(⟨R, 7, room⟩, (rse l i _).map Jb.lv)] [] (List.Perm.refl _) (fun _ _ => trivial) (fits65 l x ins miss i _ _ R room hl hi (by omega) (by omega)) ?_; rintro _ _ ⟨rfl, rfl⟩)
        | simp -dsimp [k13, k14, k15, hmid, hf, hgt]
        | simp -dsimp (disch := omega) only [w64]
        | refine And.intro (by omega) ?_
        | simp -dsimp [*]
        | refine And.intro ?_ ?_
        | intro h
        | done
      all_goals first
        | (exfalso; omega)
        | exact Round.go _ _ (by omega) (Sub.refl _) ⟨lo, (lo + hg) / 2, _, by omega, rfl, f0, hf, rfl, by simp -dsimp [k13, k14, k15]⟩
    · repeat' first
        | refine WC.on mixed rfl ?_
        | (refine new_block fun b hb => ?_; try simp at hb)
        | (refine call_split [(⟨R, 7, room⟩, (rse l i _).map Jb.lv)] [] (List.Perm.refl _) (fun _ _ => trivial) (fits65 l x ins miss i _ _ R room hl hi (by omega) (by omega)) ?_; rintro _ _ ⟨rfl, rfl⟩)
        | simp -dsimp [k13, k14, k15, hmid, hf, hgt]
        | simp -dsimp (disch := omega) only [w64]
        | refine And.intro (by omega) ?_
        | simp -dsimp [*]
        | refine And.intro ?_ ?_
        | intro h
        | done
      all_goals first
        | (exfalso; omega)
        | exact Round.go _ _ (by omega) (Sub.refl _) ⟨(lo + hg) / 2, hg, _, by omega, rfl, hf, f1, rfl, by simp -dsimp [k13, k14, k15]⟩
  · have e : hg = lo + 1 := by omega
    subst e
    have hS' : SlackR l x ins miss i (.tup [I lo, I 0]) [] := by rw [hS, h0]; simpa using ⟨by omega, by omega, f0, f1⟩
    repeat' first
      | refine WC.on mixed rfl ?_
      | (refine new_block fun b hb => ?_; try simp at hb)
      | (refine call_split [(⟨R, 7, room⟩, (rse l i _).map Jb.lv)] [] (List.Perm.refl _) (fun _ _ => trivial) (fits65 l x ins miss i _ _ R room hl hi (by omega) (by omega)) ?_; rintro _ _ ⟨rfl, rfl⟩)
      | simp -dsimp [k13, k14, k15]
      | simp -dsimp (disch := omega) only [w64]
      | refine And.intro (by omega) ?_
      | simp -dsimp [*]
      | refine And.intro ?_ ?_
      | intro h
      | done
    all_goals first
      | (exfalso; omega)
      | exact ⟨[], Sub.nil _, hS'⟩
end Go.Proofs.Ytjamehpnclkjdaa
