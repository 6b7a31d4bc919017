/- The example of the chapter of response times. It bears no statement of its own. -/
import Derived.Test.YtjamehpnclkjdaaS13
namespace Go.Proofs.Ytjamehpnclkjdaa
open Go Go.Ls
set_option linter.unusedVariables false
set_option linter.unusedSimpArgs false
set_option maxRecDepth 100000
attribute [local irreducible] Box drawF

/-- A job without sections, as a literal lays it. -/
def jn (j : Jb) : LV := .agg [I j.pe, I j.de, I j.ji, I j.pr, I j.co, .val (.slice none 0 0), I j.ev]
theorem view_jobs0 {B : Blk} {js : List Jb} {n : Nat} {σ τ : Heap} (hB : B.sz = 7) (hn : n = js.length) (he : ∀ j ∈ js, j.se = []) (hp : Sub ((B, js.map jn) :: τ) σ) : View σ τ (.msl B 0 n) (.ro 7 (js.map Jb.lv)) := by
  subst hn
  have := View.msl (ys := js.map Jb.lv) hp (by simp) fun i x y hx hy => by
    simp only [List.getElem?_map, Option.map_eq_some_iff] at hx hy
    obtain ⟨j, hj, rfl⟩ := hx
    obtain ⟨j', hj', rfl⟩ := hy
    rw [hj] at hj'
    cases hj'
    have hse := he j (List.mem_of_getElem? hj)
    refine ⟨rfl, fun k c d hc hd => ?_⟩
    have hsub : Sub τ σ := (Sub.skip _ (Sub.refl τ)).trans hp
    have hv : Views σ τ (jn j).cells j.lv.cells := ⟨View.of_sub hsub, View.of_sub hsub, View.of_sub hsub, View.of_sub hsub, View.of_sub hsub, by rw [hse]; exact View.nil hsub, View.of_sub hsub, trivial⟩
    refine ⟨?_, hv.get k c d hc hd⟩
    have := List.mem_of_getElem? hd
    simp at this
    rcases this with rfl | rfl | rfl | rfl | rfl | rfl | rfl <;> rfl
  rw [hB] at this
  simpa using this
def lA : List Jb := [⟨5, 5, 0, 2, 2, [], 0⟩, ⟨20, 20, 0, 1, 3, [], 0⟩]
def rA : Rt := ⟨0, 0, 0, 0, 0, 0⟩
theorem awake_e : allV lA rA 0 0 = (0, [⟨0, 2⟩, ⟨0, 5⟩]) := by kernel_rfl
theorem awake_f : chkV lA rA 0 0 [⟨0, 2⟩, ⟨0, 5⟩] = 0 := by kernel_rfl
theorem fitA : Fit lA := ⟨by simp [lA], by simp [lA]⟩

theorem awake34 : Pure Try.prog 34 [] (Bo true) := by
  refine lcalls_go (rts := [.tmp 0]) Try.func34 rfl rfl rfl rfl rfl ?_
  refine WC.on mixed rfl ?_
  simp -dsimp
  refine WC.on mixed rfl ?_
  simp -dsimp
  refine new_block fun b hb => ?_
  simp -dsimp
  refine WC.view 1 (y := .ro 7 (lA.map Jb.lv)) (τ := []) (by simp -dsimp; exact view_jobs0 rfl rfl (by simp [lA]) (Sub.refl _)) ?_
  refine WC.on mixed rfl ?_
  repeat' first
    | (refine new_block fun b hb => ?_; try simp at hb)
    | (refine call_new (all38 lA rA 0 0 fitA) ?_; rw [awake_e]; rintro _ _ ⟨v, rfl, hown⟩)
    | simp -dsimp []
    | simp -dsimp (disch := omega) only [w64]
    | refine And.intro (by omega) ?_
    | simp -dsimp [*]
    | refine And.intro ?_ ?_
    | intro h
    | done
  refine WC.view 2 (y := .ro 2 ([⟨0, 2⟩, ⟨0, 5⟩].map An.lv)) (τ := []) (by simpa -dsimp using View.own hown (An.ones _)) ?_
  repeat' first
    | refine WC.on mixed rfl ?_
    | (refine new_block fun b hb => ?_; try simp at hb)
    | (refine call_pure (check36 lA rA 0 0 [⟨0, 2⟩, ⟨0, 5⟩] fitA (by decide)) ?_; rw [awake_f])
    | simp -dsimp []
    | simp -dsimp (disch := omega) only [w64]
    | refine And.intro (by omega) ?_
    | simp -dsimp [*]
    | refine And.intro ?_ ?_
    | intro h
    | done
  trace_state
end Go.Proofs.Ytjamehpnclkjdaa
