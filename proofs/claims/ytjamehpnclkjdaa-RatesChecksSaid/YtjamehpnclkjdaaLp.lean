/- A small program logic over the kit's machine, part p: slices that grow, seen cell by cell. It bears no statement of its own. -/
import Derived.Test.YtjamehpnclkjdaaLo
namespace Go.Ls
open Go
set_option linter.unusedVariables false
set_option linter.unusedSimpArgs false

theorem Own.sub {sz : Nat} {v : LV} {xs : List LV} {σ τ : Heap} (h : Own sz v xs σ τ) : Sub τ σ := by
  rcases h with ⟨rfl, rfl, hp⟩ | ⟨B, rfl, rfl, hp⟩
  · exact Sub.of_perm hp
  · exact (Sub.skip _ (Sub.refl τ)).trans (Sub.of_perm hp)
theorem Own.frame {sz : Nat} {v : LV} {xs : List LV} {σ τ : Heap} (h : Own sz v xs σ τ) (ρ : Heap) : Own sz v xs (σ ++ ρ) (τ ++ ρ) := by
  rcases h with ⟨rfl, rfl, hp⟩ | ⟨B, rfl, rfl, hp⟩
  · exact .inl ⟨rfl, rfl, hp.append_right ρ⟩
  · exact .inr ⟨B, rfl, rfl, by simpa using hp.append_right ρ⟩
theorem Own.perm {sz : Nat} {v : LV} {xs : List LV} {σ σ' τ : Heap} (h : Own sz v xs σ τ) (hp : σ'.Perm σ) : Own sz v xs σ' τ := by
  rcases h with ⟨h1, h2, h⟩ | ⟨B, h1, h2, h⟩
  · exact .inl ⟨h1, h2, hp.trans h⟩
  · exact .inr ⟨B, h1, h2, hp.trans h⟩
theorem Own.blk {b sz room n : Nat} {xs : List LV} {τ : Heap} (h : n = xs.length) : Own sz (.msl ⟨b, sz, room⟩ 0 n) xs ((⟨b, sz, room⟩, xs) :: τ) τ := .inr ⟨_, rfl, by rw [h], List.Perm.refl _⟩

/-- A literal of several is put to the end of one's own; the block that holds it all then stands in front. -/
theorem app_litc {P : Program} {M : Nat → Prop} {t : TypeId} {s : LV} {k : LV → Heap → Prop} {tk : Tk k} {z : LV} {sz by_ n : Nat} {B : Blk} {ys : List LV} {σ2 : Heap} (xs : List LV) {τ2 : Heap} (τ' : Heap) (ht : slTy P t = some (z, sz, by_)) (hB : B.sz = sz) (hn : n = ys.length) (hown : Own sz s xs σ2 τ2) (hsub : Sub τ' τ2) (hM : ∀ B n, s = .msl B 0 n → M B.b ∨ B.room = n * B.sz)
    (hl : xs.length + ys.length ≤ maxLen) (hb : (xs.length + ys.length) * by_ ≤ 140737488355328) (hne : ys ≠ []) (h : ∀ b room, k (.msl ⟨b, sz, room⟩ 0 (xs.length + ys.length)) ((⟨b, sz, room⟩, xs ++ ys) :: τ')) : apF tk P M ((B, ys) :: σ2) t s (.msl B 0 n) := by
  refine app_cons ht _ (HV.refl _) xs ys (τ := (B, ys) :: τ2) τ' (hown.more _) (.inr (.inr ⟨B, 0, n, ys, rfl, hB, by simp [look], by omega, by simp [hn]⟩)) (Sub.skip _ hsub) hM hl hb (by simp [hne]) h

theorem HV.agg1 {σ τ : Heap} {B : Blk} {cs ds : List LV} (hp : Sub ((B, [.agg cs]) :: τ) σ) (ho : ds.all LV.one = true) (hv : Views σ ((B, [.agg cs]) :: τ) cs ds) : HV σ ((B, [.agg ds]) :: τ) := by
  refine HV.cells hp (by simp) fun i x y hx hy => ?_
  cases i with
  | succ i => simp at hx
  | zero =>
    simp at hx hy
    subst hx
    subst hy
    refine ⟨hv.length, fun j c d hc hd => ⟨List.all_eq_true.1 ho _ (List.mem_of_getElem? hd), hv.get j c d hc hd⟩⟩

theorem Sub.swap {σ τ : Heap} (p q : Blk × List LV) (h : Sub σ τ) : Sub (p :: q :: σ) (q :: p :: τ) := (Sub.of_perm (List.Perm.swap _ _ _)).trans (Sub.cons _ (Sub.cons _ h))
theorem Sub.pick (l₁ : Heap) {l₂ τ : Heap} {p : Blk × List LV} (h : Sub τ (l₁ ++ l₂)) : Sub (p :: τ) (l₁ ++ p :: l₂) := (Sub.cons p h).trans (Sub.of_perm List.perm_middle)
theorem Sub.skips {σ : Heap} (ρ : Heap) : Sub σ (ρ ++ σ) := ⟨ρ, List.perm_append_comm⟩
theorem Sub.front {σ : Heap} (ρ : Heap) : Sub σ (σ ++ ρ) := ⟨ρ, List.Perm.refl _⟩
end Go.Ls
