/- A small program logic over the kit's machine, part q: a cut between two pieces of code. It bears no statement of its own. -/
import Derived.Test.YtjamehpnclkjdaaLp
namespace Go.Ls
open Go
set_option linter.unusedVariables false
set_option linter.unusedSimpArgs false

def Mid {I : Fr → Heap → Prop} (t : Tk I) (fr : Fr) (σ : Heap) : Prop := ∃ τ, Sub τ σ ∧ I fr τ
theorem Mid.go {I : Fr → Heap → Prop} {fr : Fr} {σ : Heap} (τ : Heap) (hs : Sub τ σ) (h : I fr τ) : Mid (Tk.mk : Tk I) fr σ := ⟨τ, hs, h⟩
/-- What holds between two pieces of code. -/
theorem WC.cut {P : Program} {n : Nat} {c1 c2 : Code} {fr : Fr} {σ : Heap} {K : Exit → Fr → Heap → Prop} (I : Fr → Heap → Prop)
    (h1 : Box (Tk.mk : Tk (WC P n c1 fr σ fun e fr' σ' => match e with
      | .normal => Mid (Tk.mk : Tk I) fr' σ'
      | e => K e fr' σ'))) (h2 : ∀ fr' σ', I fr' σ' → Box (Tk.mk : Tk (WC P n c2 fr' σ' K))) : Box (Tk.mk : Tk (WC P n (.seq c1 c2) fr σ K)) := by
  intro hfit w0 D0 G a w hR
  simp only [fits, Bool.and_eq_true] at hfit
  refine wp_seq (wp_mono (h1 hfit.1 w0 D0 G a w hR) fun e a w hp => ?_)
  cases e <;> first
    | exact hp
    | (obtain ⟨fr', σ', ⟨τ, hs, hI⟩, hR'⟩ := hp; exact h2 fr' τ hI hfit.2 w0 D0 G a w (hR'.sub hs))

end Go.Ls
