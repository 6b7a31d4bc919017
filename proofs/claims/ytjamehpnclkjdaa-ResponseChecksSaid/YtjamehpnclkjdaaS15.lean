/- What the laws of response times ask of plain values. It bears no statement of its own. -/
import Derived.Test.YtjamehpnclkjdaaS14
import Derived.Test.YtjamehpnclkjdaaS11
namespace Go.Proofs.Ytjamehpnclkjdaa
open Go Go.Ls
set_option linter.unusedVariables false
set_option linter.unusedSimpArgs false
set_option maxRecDepth 100000
attribute [local irreducible] Box drawF

theorem RateOk.valid {x : Rt} (h : RateOk x) : validR x := by
  obtain ⟨h1, h2, h3⟩ := h
  unfold validR
  omega
theorem okC_of {n : Nat} {js : List Jb} {x : Rt} {ins miss : Int} (hj : Jobs n js) (hn : n ≤ 6) (hx : RateOk x) (h0 : 0 ≤ ins ∧ ins ≤ 16777216) (h1 : 0 ≤ miss ∧ miss ≤ 100) : okC js x ins miss := ⟨hj.valid hn, hx.valid, h0, h1⟩
theorem ans_facts {l : List Jb} {x : Rt} {ins miss : Int} {al : List An} (h : ans l x ins miss = some al) : al.length = l.length ∧ ∀ (i : Nat) (hi : i < l.length) (hi' : i < al.length), al[i].bl = blk l i ins ∧ 1 ≤ al[i].re ∧ al[i].re + l[i].ji ≤ l[i].de ∧ dem l x i ins miss al[i].re ≤ al[i].re ∧ ∀ s, 1 ≤ s → s < al[i].re → s < dem l x i ins miss s := by
  obtain ⟨h1, h2⟩ := ansA_some h
  refine ⟨h1, fun i hi hi' => ?_⟩
  obtain ⟨h3, h4⟩ := h2 i al[i] (List.getElem?_eq_getElem hi')
  rw [rt_eq hi, resp_some] at h4
  exact ⟨h3, h4⟩
theorem chk_ans {l : List Jb} {x : Rt} {ins miss : Int} {al : List An} (h : ans l x ins miss = some al) : chkA l x ins miss al := by
  obtain ⟨h1, h2⟩ := ans_facts h
  intro i hi
  obtain ⟨g1, g2, g3, g4, g5⟩ := h2 i (by omega) hi
  exact ⟨by omega, g1, g2, g3, g4⟩
theorem chkV_ans {l : List Jb} {x : Rt} {ins miss : Int} {al : List An} (hc : okC l x ins miss) (h : ans l x ins miss = some al) : chkV l x ins miss al = 0 := by
  unfold chkV
  rw [if_pos ⟨hc, (ans_facts h).1⟩, if_pos (chk_ans h)]
theorem chkV_less {l : List Jb} {x : Rt} {ins miss : Int} {al : List An} (hc : okC l x ins miss) (h : ans l x ins miss = some al) {k : Nat} (hk : k < al.length) {c : Int} (h1 : 1 ≤ c) : chkV l x ins miss (al.set k ⟨al[k].bl, al[k].re - c⟩) = 37 := by
  obtain ⟨g1, g2⟩ := ans_facts h
  unfold chkV
  rw [if_pos ⟨hc, by rw [List.length_set]; exact g1⟩, if_neg]
  intro hg
  have := hg k (by rw [List.length_set]; exact hk)
  rw [List.getElem_set_self] at this
  obtain ⟨hkl, h2, h3, h4, h5⟩ := this
  have := (g2 k hkl hk).2.2.2.2 (al[k].re - c) h3 (by omega)
  simp only at h5
  omega
theorem allV_ok {l : List Jb} {x : Rt} {ins miss : Int} (hc : okC l x ins miss) : allV l x ins miss = match ans l x ins miss with
    | some al => (0, al)
    | none => (38, []) := if_pos hc
end Go.Proofs.Ytjamehpnclkjdaa
