/- What the rates answer, function by function. It bears no statement of its own. -/
import Derived.Test.YtjamehpnclkjdaaR2
namespace Go.Proofs.Ytjamehpnclkjdaa
open Go Go.Ls
set_option linter.unusedVariables false
set_option linter.unusedSimpArgs false
set_option maxRecDepth 100000
attribute [local irreducible] Box drawF

def hit (k f t : Int) (d : Db) : Bool := decide (d.k = k) && (decide (f ≤ d.t) && decide (d.t < t))
def cnt (l : List Db) (k f t : Int) : Nat := l.countP (hit k f t)

theorem cnt_succ (l : List Db) (k f t : Int) (i : Nat) (h : i < l.length) : cnt (l.take (i + 1)) k f t = cnt (l.take i) k f t + if hit k f t l[i] then 1 else 0 := by
  unfold cnt
  rw [List.take_succ_eq_append_getElem h, List.countP_append, List.countP_singleton]

theorem cnt_le (l : List Db) (k f t : Int) : cnt l k f t ≤ l.length := List.countP_le_length

theorem count30 (l : List Db) (k f t : Int) (hl : l.length ≤ 1152921504606846976) : Pure Try.prog 30 [.ro 5 (l.map Db.lv), I k, I f, I t] (I (cnt l k f t)) := by
  refine lcalls_go (rts := [.tmp 8]) Try.func30 rfl rfl rfl rfl rfl ?_
  repeat' first
    | refine WC.on mixed rfl ?_
    | (refine new_block fun b hb => ?_; try simp at hb)
    | simp -dsimp []
    | simp -dsimp (disch := omega) only [w64]
    | refine And.intro (by omega) ?_
    | simp -dsimp [*]
    | refine And.intro ?_ ?_
    | intro h
    | done
  refine WC.loop (fun m fr σ => ∃ i : Nat, i ≤ l.length ∧ m = l.length - i ∧ σ = [] ∧ fr 1 = I k ∧ fr 2 = I f ∧ fr 3 = I t ∧ fr 9 = I (cnt (l.take i) k f t) ∧ fr 12 = .ro 5 (l.map Db.lv) ∧ fr 13 = I l.length ∧ fr 14 = I i) l.length ⟨0, by simp [cnt]⟩ ?_
  rintro m fr σ ⟨i, hi, rfl, rfl, h1, h2, h3, h9, h12, h13, h14⟩
  refine WC.on mixed rfl ?_
  simp -dsimp [h1, h2, h3, h9, h12, h13, h14]
  refine WC.on mixed rfl ?_
  simp -dsimp
  refine ⟨fun hlt => ?_, fun hge => ?_⟩
  · have hc := cnt_succ l k f t i hlt
    have hcl := cnt_le (l.take i) k f t
    rw [List.length_take] at hcl
    repeat' first
      | refine WC.on mixed rfl ?_
      | (refine new_block fun b hb => ?_; try simp at hb)
      | simp -dsimp [h1, h2, h3, h9, h12, h13, h14, hlt]
      | simp -dsimp (disch := omega) only [w64]
      | refine And.intro (by omega) ?_
      | simp -dsimp [*]
      | refine And.intro ?_ ?_
      | intro h
      | done
    all_goals refine Round.go (l.length - (i + 1)) [] (by omega) (Sub.nil _) ⟨i + 1, ?_⟩
    all_goals simp -dsimp [h1, h2, h3, h9, h12, h13, h14]
    all_goals grind [hit, w64]
  · have : l.take i = l := List.take_of_length_le hge
    repeat' first
      | refine WC.on mixed rfl ?_
      | (refine new_block fun b hb => ?_; try simp at hb)
      | simp -dsimp [h1, h2, h3, h9, h12, h13, h14]
      | simp -dsimp (disch := omega) only [w64]
      | refine And.intro (by omega) ?_
      | simp -dsimp [*]
      | refine And.intro ?_ ?_
      | intro h
      | done
    all_goals grind

theorem count31 (l : List Db) (k f t : Int) (hl : l.length ≤ 1152921504606846976) : Pure Try.prog 31 [.ro 5 (l.map Db.lv), I k, I f, I t] (I (cnt l k f t)) := by
  refine lcalls_go (rts := [.tmp 8]) Try.func31 rfl rfl rfl rfl rfl ?_
  repeat' first
    | refine WC.on mixed rfl ?_
    | (refine new_block fun b hb => ?_; try simp at hb)
    | simp -dsimp []
    | simp -dsimp (disch := omega) only [w64]
    | refine And.intro (by omega) ?_
    | simp -dsimp [*]
    | refine And.intro ?_ ?_
    | intro h
    | done
  refine WC.loop (fun m fr σ => ∃ i : Nat, i ≤ l.length ∧ m = l.length - i ∧ σ = [] ∧ fr 1 = I k ∧ fr 2 = I f ∧ fr 3 = I t ∧ fr 9 = I (cnt (l.take i) k f t) ∧ fr 12 = .ro 5 (l.map Db.lv) ∧ fr 13 = I l.length ∧ fr 14 = I i) l.length ⟨0, by simp [cnt]⟩ ?_
  rintro m fr σ ⟨i, hi, rfl, rfl, h1, h2, h3, h9, h12, h13, h14⟩
  refine WC.on mixed rfl ?_
  simp -dsimp [h1, h2, h3, h9, h12, h13, h14]
  refine WC.on mixed rfl ?_
  simp -dsimp
  refine ⟨fun hlt => ?_, fun hge => ?_⟩
  · have hc := cnt_succ l k f t i hlt
    have hcl := cnt_le (l.take i) k f t
    rw [List.length_take] at hcl
    repeat' first
      | refine WC.on mixed rfl ?_
      | (refine new_block fun b hb => ?_; try simp at hb)
      | simp -dsimp [h1, h2, h3, h9, h12, h13, h14, hlt]
      | simp -dsimp (disch := omega) only [w64]
      | refine And.intro (by omega) ?_
      | simp -dsimp [*]
      | refine And.intro ?_ ?_
      | intro h
      | done
    all_goals refine Round.go (l.length - (i + 1)) [] (by omega) (Sub.nil _) ⟨i + 1, ?_⟩
    all_goals simp -dsimp [h1, h2, h3, h9, h12, h13, h14]
    all_goals grind [hit, w64]
  · have : l.take i = l := List.take_of_length_le hge
    repeat' first
      | refine WC.on mixed rfl ?_
      | (refine new_block fun b hb => ?_; try simp at hb)
      | simp -dsimp [h1, h2, h3, h9, h12, h13, h14]
      | simp -dsimp (disch := omega) only [w64]
      | refine And.intro (by omega) ?_
      | simp -dsimp [*]
      | refine And.intro ?_ ?_
      | intro h
      | done
    all_goals grind

def formedP (d : Db) (f : Int) : Prop := (0 ≤ d.t ∧ d.t ≤ 16777216) ∧ f ≤ d.t ∧ 1 ≤ d.k ∧ d.k ≤ 3 ∧ (d.k = 3 → 0 ≤ d.s ∧ 0 ≤ d.p) ∧ (d.k ≠ 3 → d.s = 0 ∧ d.p = 0)
instance (d : Db) (f : Int) : Decidable (formedP d f) := by unfold formedP; infer_instance

theorem formed52 (d : Db) (f : Int) : Pure Try.prog 52 [d.lv, I f] (Bo (decide (formedP d f))) := by
  refine lcalls_go (rts := [.tmp 4]) Try.func52 rfl rfl rfl rfl rfl ?_
  repeat' first
    | refine WC.on mixed rfl ?_
    | (refine new_block fun b hb => ?_; try simp at hb)
    | refine call_pure (within51 _ _) ?_
    | simp -dsimp []
    | simp -dsimp (disch := omega) only [w64]
    | refine And.intro (by omega) ?_
    | simp -dsimp [*]
    | refine And.intro ?_ ?_
    | intro h
    | done
  all_goals grind [formedP]

def ceil (a b : Int) : Int := if b ≤ 0 then 0 else (a + b - 1) / b

theorem ceil_nonneg (a b : Int) (h : 0 ≤ a) : 0 ≤ ceil a b := by
  unfold ceil
  split
  · omega
  · exact Int.ediv_nonneg (by omega) (by omega)

theorem ceil_le (a b : Int) (h : 0 ≤ a) : ceil a b ≤ a := by
  unfold ceil
  split
  · omega
  · rename_i hb
    rcases Int.lt_or_le 0 a with h0 | h0
    · refine Int.le_of_lt_add_one (Int.ediv_lt_of_lt_mul (by omega) ?_)
      have : 0 ≤ a * (b - 1) := Int.mul_nonneg h (by omega)
      have e : (a + 1) * b = a * (b - 1) + a + b := by rw [Int.add_mul, Int.mul_sub]; omega
      omega
    · have : a = 0 := by omega
      subst this
      rw [Int.ediv_eq_zero_of_lt (by omega) (by omega)]
      omega

theorem ceil_tdiv (a b : Int) (h : 0 ≤ a) (hb : 0 < b) : a.tdiv b + min 1 (max 0 (a.tmod b)) = ceil a b := by
  unfold ceil
  rw [if_neg (by omega), Int.tdiv_eq_ediv_of_nonneg h, Int.tmod_eq_emod_of_nonneg h]
  have h1 := Int.emod_nonneg a (Int.ne_of_gt hb)
  have h2 := Int.emod_lt_of_pos a hb
  have h3 := Int.mul_ediv_add_emod a b
  have z : (b - 1) / b = 0 := Int.ediv_eq_zero_of_lt (by omega) (by omega)
  by_cases h0 : a % b = 0
  · have e : a + b - 1 = (b - 1) + b * (a / b) := by omega
    rw [e, Int.add_mul_ediv_left _ _ (Int.ne_of_gt hb), z]
    omega
  · have e : a + b - 1 = (a % b - 1) + b * (a / b + 1) := by rw [Int.mul_add]; omega
    have z' : (a % b - 1) / b = 0 := Int.ediv_eq_zero_of_lt (by omega) (by omega)
    rw [e, Int.add_mul_ediv_left _ _ (Int.ne_of_gt hb), z']
    omega

theorem times56 (a b : Int) (h0 : 0 ≤ a) (h1 : a ≤ 1099511627776) : Pure Try.prog 56 [I a, I b] (I (ceil a b)) := by
  have hc := ceil_nonneg a b h0
  have hl := ceil_le a b h0
  refine lcalls_go (rts := [.tmp 4]) Try.func56 rfl rfl rfl rfl rfl ?_
  repeat' first
    | refine WC.on mixed rfl ?_
    | (refine new_block fun b hb => ?_; try simp at hb)
    | refine draw_plan 3 [] [(0, 0), (1, 0), (2, 0), (3, 0), (4, 0), (5, 0), (6, 0), (7, 0), (8, 0), (9, 0)] (by kernel_rfl) rfl ?_
    | refine plan_nil ?_
    | refine plan_none rfl (by simp) ?_
    | refine plan_some rfl rfl (by simp) ?_
    | simp -dsimp []
    | simp -dsimp (disch := omega) only [w64]
    | refine And.intro (by omega) ?_
    | simp -dsimp [*]
    | refine And.intro ?_ ?_
    | intro h
    | done
  · simp [ceil, h]
  · have e := ceil_tdiv a b h0 h
    have e1 := Int.tmod_eq_emod_of_nonneg (b := b) h0
    rw [w64 (n := a.tdiv b) (by omega) (by omega), w64 (by omega) (by omega), e]

theorem part57 (p a b : Int) (h0 : 0 ≤ a) (h1 : a ≤ 16777216) (h2 : 0 ≤ b) (h3 : b ≤ 16777216) (h4 : 0 ≤ p) (h5 : p ≤ 16777216) : Pure Try.prog 57 [I p, I a, I b] (I (p * ceil a b)) := by
  have hc := ceil_nonneg a b h0
  have hl := ceil_le a b h0
  refine lcalls_go (rts := [.tmp 6]) Try.func57 rfl rfl rfl rfl rfl ?_
  repeat' first
    | refine WC.on mixed rfl ?_
    | (refine new_block fun b hb => ?_; try simp at hb)
    | simp -dsimp []
    | simp -dsimp (disch := omega) only [w64]
    | refine And.intro (by omega) ?_
    | simp -dsimp [*]
    | refine And.intro ?_ ?_
    | intro h
    | done
  · simp [ceil, h]
  · have e : (a + b - 1).tdiv b = ceil a b := by
      unfold ceil
      rw [if_neg (by omega), Int.tdiv_eq_ediv_of_nonneg (by omega)]
    have m1 : p * ceil a b ≤ 16777216 * 16777216 := Int.mul_le_mul h5 (by omega) hc (by omega)
    have m2 := Int.mul_nonneg h4 hc
    rw [e, w64 (n := ceil a b) (by omega) (by omega), w64 (by omega) (by omega)]

def partsL (x : Rt) (e : Int) : List LV := [.agg [I 1, I x.di, I 1, I x.de], .agg [I 2, I x.pe, I 1, I x.pa], .agg [I 3, I x.wi, I x.er, I e]]

theorem parts53 (x : Rt) (e : Int) : LCalls Try.prog 53 [x.lv, I e] [] fun r σ => ∃ b, r = .msl ⟨b, 4, 12⟩ 0 3 ∧ σ = [(⟨b, 4, 12⟩, partsL x e)] := by
  refine lcalls_go (rts := [.tmp 4]) Try.func53 rfl rfl rfl rfl rfl ?_
  repeat' first
    | refine WC.on mixed rfl ?_
    | (refine new_block fun b hb => ?_; try simp at hb)
    | simp -dsimp []
    | simp -dsimp (disch := omega) only [w64]
    | refine And.intro (by omega) ?_
    | simp -dsimp [*]
    | refine And.intro ?_ ?_
    | intro h
    | done
  exact Sub.cons _ (Sub.nil _)

def most (x : Rt) (e n : Int) : Int := x.de * ceil n x.di + x.pa * ceil n x.pe + e * x.er * ceil n x.wi
structure Small (x : Rt) : Prop where
  di : 0 ≤ x.di ∧ x.di ≤ 16777216
  pe : 0 ≤ x.pe ∧ x.pe ≤ 16777216
  wi : 0 ≤ x.wi ∧ x.wi ≤ 16777216
  de : 0 ≤ x.de ∧ x.de ≤ 16777216
  pa : 0 ≤ x.pa ∧ x.pa ≤ 16777216
  er : 0 ≤ x.er ∧ x.er ≤ 200

theorem prod_le (p q : Int) (h0 : 0 ≤ p) (h1 : p ≤ 16777216) (h2 : 0 ≤ q) (h3 : q ≤ 16777216) : 0 ≤ p * q ∧ p * q ≤ 281474976710656 :=
  ⟨Int.mul_nonneg h0 h2, Int.le_trans (Int.mul_le_mul h1 h3 h2 (by omega)) (by omega)⟩

theorem most33 (x : Rt) (e n : Int) (hx : Small x) (h0 : 0 ≤ e) (h1 : e ≤ 80000) (h2 : 0 ≤ n) (h3 : n ≤ 16777216) : Pure Try.prog 33 [x.lv, I e, I n] (I (most x e n)) := by
  obtain ⟨hdi, hpe, hwi, hde, hpa, her⟩ := hx
  have he1 : 0 ≤ e * x.er := Int.mul_nonneg h0 her.1
  have he2 : e * x.er ≤ 80000 * 200 := Int.mul_le_mul h1 her.2 her.1 (by omega)
  have c1 := ceil_nonneg n x.di h2
  have c2 := ceil_nonneg n x.pe h2
  have c3 := ceil_nonneg n x.wi h2
  have d1 := ceil_le n x.di h2
  have d2 := ceil_le n x.pe h2
  have d3 := ceil_le n x.wi h2
  have p1 := prod_le x.de (ceil n x.di) hde.1 hde.2 c1 (by omega)
  have p2 := prod_le x.pa (ceil n x.pe) hpa.1 hpa.2 c2 (by omega)
  have p3 := prod_le (e * x.er) (ceil n x.wi) he1 (by omega) c3 (by omega)
  have hm : most x e n = x.de * ceil n x.di + x.pa * ceil n x.pe + e * x.er * ceil n x.wi := rfl
  refine lcalls_go (rts := [.tmp 6]) Try.func33 rfl rfl rfl rfl rfl ?_
  repeat' first
    | refine WC.on mixed rfl ?_
    | (refine new_block fun b hb => ?_; try simp at hb)
    | refine draw_plan 1 [] [(0, 0), (2, 0), (3, 0), (6, 0), (8, 0), (9, 0), (13, 0), (14, 0), (17, 0), (18, 0), (1, 1), (4, 1), (7, 1), (10, 1), (15, 1), (16, 0), (19, 1), (5, 2), (11, 2), (12, 0), (20, 2), (21, 0), (22, 0)] (by kernel_rfl) rfl ?_
    | refine plan_nil ?_
    | refine plan_none rfl (by simp) ?_
    | refine plan_some rfl rfl (by simp) ?_
    | refine call_pure (part57 _ _ _ (by omega) (by omega) (by omega) (by omega) (by omega) (by omega)) ?_
    | simp -dsimp []
    | simp -dsimp (disch := omega) only [w64]
    | refine And.intro (by omega) ?_
    | simp -dsimp [*]
    | refine And.intro ?_ ?_
    | intro h
    | done
  all_goals exact hm.symm

theorem most32 (x : Rt) (e n : Int) (hx : Small x) (h0 : 0 ≤ e) (h1 : e ≤ 80000) (h2 : 0 ≤ n) (h3 : n ≤ 16777216) : Pure Try.prog 32 [x.lv, I e, I n] (I (most x e n)) := by
  obtain ⟨hdi, hpe, hwi, hde, hpa, her⟩ := hx
  have he1 : 0 ≤ e * x.er := Int.mul_nonneg h0 her.1
  have he2 : e * x.er ≤ 80000 * 200 := Int.mul_le_mul h1 her.2 her.1 (by omega)
  have c1 := ceil_nonneg n x.di h2
  have c2 := ceil_nonneg n x.pe h2
  have c3 := ceil_nonneg n x.wi h2
  have d1 := ceil_le n x.di h2
  have d2 := ceil_le n x.pe h2
  have d3 := ceil_le n x.wi h2
  have p1 := prod_le x.de (ceil n x.di) hde.1 hde.2 c1 (by omega)
  have p2 := prod_le x.pa (ceil n x.pe) hpa.1 hpa.2 c2 (by omega)
  have p3 := prod_le (e * x.er) (ceil n x.wi) he1 (by omega) c3 (by omega)
  have hm : most x e n = x.de * ceil n x.di + x.pa * ceil n x.pe + e * x.er * ceil n x.wi := rfl
  refine lcalls_go (rts := [.tmp 6]) Try.func32 rfl rfl rfl rfl rfl ?_
  repeat' first
    | refine WC.on mixed rfl ?_
    | (refine new_block fun b hb => ?_; try simp at hb)
    | refine call_new (parts53 _ _) ?_; rintro _ _ ⟨b, rfl, rfl⟩
    | simp -dsimp []
    | simp -dsimp (disch := omega) only [w64]
    | refine And.intro (by omega) ?_
    | simp -dsimp [*]
    | refine And.intro ?_ ?_
    | intro h
    | done
  refine WC.drop (τ := [(⟨b, 4, 12⟩, partsL x e)]) (Sub.cons _ (Sub.nil _)) ?_
  refine WC.loop (fun m fr σ => ∃ i : Nat, i ≤ 3 ∧ m = 3 - i ∧ σ = [(⟨b, 4, 12⟩, partsL x e)] ∧ fr 2 = I n ∧ fr 7 = I ([0, x.de * ceil n x.di, x.de * ceil n x.di + x.pa * ceil n x.pe, most x e n].getD i 0) ∧ fr 12 = .msl ⟨b, 4, 12⟩ 0 3 ∧ fr 13 = I 3 ∧ fr 14 = I i) 3 ⟨0, by simp⟩ ?_
  rintro m fr σ ⟨i, hi, rfl, rfl, g2, g7, g12, g13, g14⟩
  have hi' : i = 0 ∨ i = 1 ∨ i = 2 ∨ i = 3 := by omega
  rcases hi' with rfl | rfl | rfl | rfl
  all_goals repeat' first
    | refine WC.on mixed rfl ?_
    | (refine new_block fun b hb => ?_; try simp at hb)
    | refine draw_plan 5 [] [(0, 0), (1, 0), (3, 0), (6, 0), (7, 0), (2, 1), (4, 1), (5, 0), (8, 1), (9, 2), (10, 0), (11, 0), (12, 0)] (by kernel_rfl) rfl ?_
    | refine plan_nil ?_
    | refine plan_none rfl (by simp) ?_
    | refine plan_some rfl rfl (by simp) ?_
    | refine call_pure (times56 _ _ (by omega) (by omega)) ?_
    | simp -dsimp [g2, g7, g12, g13, g14, partsL]
    | simp -dsimp (disch := omega) only [w64]
    | refine And.intro (by omega) ?_
    | simp -dsimp [*]
    | refine And.intro ?_ ?_
    | intro h
    | done
  · exact Round.go 2 [(_, partsL x e)] (by omega) (Sub.skip _ (Sub.refl _)) ⟨1, by simp -dsimp [g2, g12, g13]⟩
  · exact Round.go 1 [(_, partsL x e)] (by omega) (Sub.skip _ (Sub.refl _)) ⟨2, by simp -dsimp [g2, g12, g13]⟩
  · exact Round.go 0 [(_, partsL x e)] (by omega) (Sub.skip _ (Sub.refl _)) ⟨3, by simp -dsimp [g2, g12, g13, hm, Int.mul_comm]⟩
end Go.Proofs.Ytjamehpnclkjdaa
