/- A small program logic over the kit's machine, part r: a cut that may say less of the memory. It bears no statement of its own. -/
import Derived.Test.YtjamehpnclkjdaaLq
namespace Go.Ls
open Go
set_option linter.unusedVariables false
set_option linter.unusedSimpArgs false

def Midv {I : Fr → Heap → Prop} (t : Tk I) (fr : Fr) (σ : Heap) : Prop := ∃ τ, HV σ τ ∧ I fr τ
theorem Midv.go {I : Fr → Heap → Prop} {fr : Fr} {σ : Heap} (τ : Heap) (hs : Sub τ σ) (h : I fr τ) : Midv (Tk.mk : Tk I) fr σ := ⟨τ, HV.of_sub hs, h⟩
theorem Midv.hv {I : Fr → Heap → Prop} {fr : Fr} {σ : Heap} (τ : Heap) (hs : HV σ τ) (h : I fr τ) : Midv (Tk.mk : Tk I) fr σ := ⟨τ, hs, h⟩
/-- What holds between two pieces of code; the memory by what is said of it. -/
theorem WC.cutv {P : Program} {n : Nat} {c1 c2 : Code} {fr : Fr} {σ : Heap} {K : Exit → Fr → Heap → Prop} (I : Fr → Heap → Prop)
    (h1 : Box (Tk.mk : Tk (WC P n c1 fr σ fun e fr' σ' => match e with
      | .normal => Midv (Tk.mk : Tk I) fr' σ'
      | e => K e fr' σ'))) (h2 : ∀ fr' σ', I fr' σ' → Box (Tk.mk : Tk (WC P n c2 fr' σ' K))) : Box (Tk.mk : Tk (WC P n (.seq c1 c2) fr σ K)) := by
  intro hfit w0 D0 G a w hR
  simp only [fits, Bool.and_eq_true] at hfit
  refine wp_seq (wp_mono (h1 hfit.1 w0 D0 G a w hR) fun e a w hp => ?_)
  cases e <;> first
    | exact hp
    | (obtain ⟨fr', σ', ⟨τ, hs, hI⟩, hR'⟩ := hp; exact h2 fr' τ hI hfit.2 w0 D0 G a w (hR'.hv hs))

/-- One element of an owned block by a view of its cells. -/
theorem HV.elem {σ τ : Heap} {B : Blk} {xs ys : List LV} {k : Nat} {cs ds : List LV} (hp : Sub ((B, xs) :: τ) σ) (hl : ys.length = xs.length) (ho : ∀ y ∈ ys, y.cells.all LV.one = true)
    (hne : ∀ i, i ≠ k → ys[i]? = xs[i]?) (hx : xs[k]? = some (.agg cs)) (hy : ys[k]? = some (.agg ds)) (hv : Views σ ((B, xs) :: τ) cs ds) : HV σ ((B, ys) :: τ) := by
  refine HV.cells hp (by omega) fun i x y h1 h2 => ?_
  have hoy : ∀ (j : Nat) (d : LV), y.cells[j]? = some d → d.one = true := fun j d hd => List.all_eq_true.1 (ho y (List.mem_of_getElem? h2)) d (List.mem_of_getElem? hd)
  by_cases e : i = k
  · subst e
    rw [hx] at h1
    rw [hy] at h2
    cases h1
    cases h2
    exact ⟨hv.length, fun j c d hc hd => ⟨hoy j d hd, hv.get j c d hc hd⟩⟩
  · rw [hne i e, h1] at h2
    cases h2
    refine ⟨rfl, fun j c d hc hd => ⟨hoy j d hd, ?_⟩⟩
    rw [hc] at hd
    cases hd
    exact View.of_sub hp

/-- Something is put to the end: a block, in front; its number is none of the others'. -/
theorem app_consn {P : Program} {M : Nat → Prop} {σ : Heap} {t : TypeId} {s x : LV} {k : LV → Heap → Prop} {tk : Tk k} {z : LV} {sz by_ : Nat} (ht : slTy P t = some (z, sz, by_)) (σ0 : Heap) (hv : HV σ σ0) (xs ys : List LV) {τ : Heap} (τ' : Heap) (hown : Own sz s xs σ0 τ) (hsrc : Src σ0 sz x ys) (hsub : Sub τ' τ) (hM : ∀ B n, s = .msl B 0 n → M B.b ∨ B.room = n * B.sz)
    (hl : xs.length + ys.length ≤ maxLen) (hb : (xs.length + ys.length) * by_ ≤ 140737488355328) (hne : xs ++ ys ≠ []) (h : ∀ b room, ¬ dom τ' b → k (.msl ⟨b, sz, room⟩ 0 (xs.length + ys.length)) ((⟨b, sz, room⟩, xs ++ ys) :: τ')) : apF tk P M σ t s x := by
  refine app_hvn ht σ0 hv xs ys τ' hown hsrc hsub hM hl hb fun v' σ' ho hn => ?_
  rcases ho with ⟨_, h2, _⟩ | ⟨⟨b, sz', room⟩, rfl, rfl, rfl⟩
  · exact absurd h2 hne
  · rw [List.length_append]
    simp only [List.map_cons, List.nodup_cons] at hn
    exact h b room fun hd => hn.1 (dom_map.1 hd)
theorem app_litn {P : Program} {M : Nat → Prop} {t : TypeId} {s : LV} {k : LV → Heap → Prop} {tk : Tk k} {z : LV} {sz by_ n : Nat} {B : Blk} {ys : List LV} {σ2 : Heap} (xs : List LV) {τ2 : Heap} (τ' : Heap) (ht : slTy P t = some (z, sz, by_)) (hB : B.sz = sz) (hn : n = ys.length) (hown : Own sz s xs σ2 τ2) (hsub : Sub τ' τ2) (hM : ∀ B n, s = .msl B 0 n → M B.b ∨ B.room = n * B.sz)
    (hl : xs.length + ys.length ≤ maxLen) (hb : (xs.length + ys.length) * by_ ≤ 140737488355328) (hne : ys ≠ []) (h : ∀ b room, ¬ dom τ' b → k (.msl ⟨b, sz, room⟩ 0 (xs.length + ys.length)) ((⟨b, sz, room⟩, xs ++ ys) :: τ')) : apF tk P M ((B, ys) :: σ2) t s (.msl B 0 n) := by
  refine app_consn ht _ (HV.refl _) xs ys (τ := (B, ys) :: τ2) τ' (hown.more _) (.inr (.inr ⟨B, 0, n, ys, rfl, hB, by simp [look], by omega, by simp [hn]⟩)) (Sub.skip _ hsub) hM hl hb (by simp [hne]) h
end Go.Ls
