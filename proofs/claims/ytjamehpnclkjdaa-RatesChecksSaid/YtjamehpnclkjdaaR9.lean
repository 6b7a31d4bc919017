/- Lists of disturbances that a deck gives. It bears no statement of its own. -/
import Derived.Test.YtjamehpnclkjdaaR8
namespace Go.Proofs.Ytjamehpnclkjdaa
open Go Go.Ls
set_option linter.unusedVariables false
set_option linter.unusedSimpArgs false
set_option maxRecDepth 100000
attribute [local irreducible] Box drawF

def Drawn (n : Int) (l : List Db) : Prop := l.length ≤ 40 ∧ ∀ d ∈ l, (0 ≤ d.t ∧ d.t < n) ∧ 1 ≤ d.k ∧ d.k ≤ 3

theorem drawn_snoc {n : Int} {l : List Db} {d : Db} (h : Drawn n l) (hl : l.length < 40) (h1 : (0 ≤ d.t ∧ d.t < n) ∧ 1 ≤ d.k ∧ d.k ≤ 3) : Drawn n (l ++ [d]) := by
  refine ⟨by simp; omega, fun e he => ?_⟩
  rcases List.mem_append.1 he with he | he
  · exact h.2 e he
  · rw [List.mem_singleton.1 he]
    exact h1

set_option maxHeartbeats 8000000 in
theorem disturbs24 (ls : List Int) (a0 b0 : Nat) (x : Rt) (n : Int) (sp : Bool) (ha0 : a0 ≤ ls.length) (hl : ls.length ≤ 1152921504606846976) (hn0 : 0 ≤ n) (hn : n ≤ 16777216) :
    LCalls Try.prog 24 [.ref (dk b0) 0 0, x.lv, I n, Bo sp] [(dk b0, deck ls a0)] fun r σ => ∃ (a' : Nat) (l : List Db), a' ≤ ls.length ∧ Drawn n l ∧ Own 5 r (l.map Db.lv) σ [(dk b0, deck ls a')] := by
  refine lcalls_go (rts := [.tmp 8]) Try.func24 rfl rfl rfl rfl rfl ?_
  repeat' first
    | refine WC.on mixed rfl ?_
    | (refine new_block fun b hb => ?_; try simp at hb)
    | refine next_a hl (by assumption) (by omega) (by omega) trivial fun a v ha h0 h1 => ?_
    | refine next_b hl (by assumption) (by omega) (by omega) trivial fun a v ha h0 h1 => ?_
    | refine next_c hl (by assumption) (by omega) (by omega) trivial fun a v ha h0 h1 => ?_
    | simp -dsimp []
    | simp -dsimp (disch := omega) only [w64]
    | refine And.intro (by omega) ?_
    | simp -dsimp [*]
    | refine And.intro ?_ ?_
    | intro h
    | done
  rename_i b5 hb5
  obtain ⟨b10, hb10⟩ : ∃ b10, b10 = b := ⟨b, rfl⟩
  subst hb10
  refine WC.loop (fun m fr σ => ∃ (a : Nat) (t e : Int) (v0 v1 v2 v3 : Int) (l : List Db) (ρ : Heap) (v : LV), a ≤ ls.length ∧ m = (n - t).toNat ∧ 0 ≤ t ∧ Own 5 v (l.map Db.lv) ρ [] ∧ Drawn n l ∧
    σ = (dk b0, deck ls a) :: (⟨b10, 4, 4⟩, [.agg [I v0, I v1, I v2, I v3]]) :: (⟨b5, 6, 6⟩, [x.lv]) :: ρ ∧ fr 0 = .ref (dk b0) 0 0 ∧ fr 2 = I n ∧ fr 3 = Bo sp ∧ fr 5 = .ref ⟨b5, 6, 6⟩ 0 0 ∧ fr 9 = v ∧ fr 10 = .ref ⟨b10, 4, 4⟩ 0 0 ∧ fr 12 = I t ∧ fr 11 = I e) (n - v).toNat
    ⟨a, v, 0, 0, 0, 0, 0, [], [], _, ha, rfl, h0, Own.none _ _, ⟨by simp, by simp⟩, rfl, by simp -dsimp⟩ ?_
  clear hb ha h0 h1 hb5
  rintro m fr σ ⟨a, t, e, v0, v1, v2, v3, l, ρ, v9, ha, rfl, ht, hown, hd, rfl, k0, k2, k3, k5, k9, k10, k12, k11⟩
  have hlen := hd.1
  repeat' first
    | refine WC.on mixed rfl ?_
    | (refine new_block fun b hb => ?_; try simp at hb)
    | refine hown.len ?_
    | (refine next_a (n := 3) hl (by assumption) (by omega) (by omega) trivial fun a v ha h0 h1 => ?_; have hv : v = 0 ∨ v = 1 ∨ v = 2 := (by omega); rcases hv with rfl | rfl | rfl)
    | (refine next_b (n := 3) hl (by assumption) (by omega) (by omega) trivial fun a v ha h0 h1 => ?_; have hv : v = 0 ∨ v = 1 ∨ v = 2 := (by omega); rcases hv with rfl | rfl | rfl)
    | (refine next_c (n := 3) hl (by assumption) (by omega) (by omega) trivial fun a v ha h0 h1 => ?_; have hv : v = 0 ∨ v = 1 ∨ v = 2 := (by omega); rcases hv with rfl | rfl | rfl)
    | refine next_a hl (by assumption) (by omega) (by omega) trivial fun a v ha h0 h1 => ?_
    | refine next_b hl (by assumption) (by omega) (by omega) trivial fun a v ha h0 h1 => ?_
    | refine next_c hl (by assumption) (by omega) (by omega) trivial fun a v ha h0 h1 => ?_
    | (refine app_lit _ _ ty_sl38 rfl rfl (by repeat first | exact hown | apply Own.more) (Sub.refl _) (fun _ _ _ => trivial) (by simp [maxLen]; omega) (by simp; omega) fun v2 σ2 hown2 => ?_; simp -dsimp; refine WC.owned hown2 fun ρ2 hr2 => ?_; clear hown2)
    | simp -dsimp [k0, k2, k3, k5, k9, k10, k12, k11]
    | simp -dsimp (disch := omega) only [w64]
    | refine And.intro (by omega) ?_
    | simp -dsimp [*]
    | refine And.intro ?_ ?_
    | intro h
    | done
  all_goals first
    | exact ⟨(dk b0, deck ls _) :: ρ, Sub.cons _ (Sub.skip _ (Sub.skip _ (Sub.refl _))), _, ha, l, hd, hown.more _⟩
    | exact Round.go _ ((dk b0, deck ls _) :: (⟨b10, 4, 4⟩, [.agg [I _, I _, I _, I _]]) :: (⟨b5, 6, 6⟩, [x.lv]) :: ρ2) (by omega) (by repeat (first | exact Sub.refl _ | apply Sub.cons | apply Sub.skip))
        ⟨_, _, _, _, _, _, _, l ++ [⟨_, _, _, _, _⟩], ρ2, _, by assumption, rfl, by omega, by rw [List.map_append]; exact hr2, drawn_snoc hd (by omega) ⟨⟨ht, by assumption⟩, (by first | (dsimp only; omega) | (dsimp only; rw [w64 (by omega) (by omega)]; omega) | simp [IntKind.bits]), (by first | (dsimp only; omega) | (dsimp only; rw [w64 (by omega) (by omega)]; omega) | simp [IntKind.bits])⟩, rfl, k0, k2, k3, k5, rfl, k10, rfl, rfl⟩
    | exact Round.go _ ((dk b0, deck ls _) :: (⟨b10, 4, 4⟩, [.agg [I _, I _, I _, I _]]) :: (⟨b5, 6, 6⟩, [x.lv]) :: ρ) (by omega) (by repeat (first | exact Sub.refl _ | apply Sub.cons | apply Sub.skip))
        ⟨_, _, _, _, _, _, _, l, ρ, _, by assumption, rfl, by omega, hown, hd, rfl, k0, k2, k3, k5, k9, k10, rfl, k11⟩
end Go.Proofs.Ytjamehpnclkjdaa
