/- A small program logic over the kit's machine, part t: a block by what is in it. It bears no statement of its own. -/
import Derived.Test.YtjamehpnclkjdaaLr
namespace Go.Ls
open Go
set_option linter.unusedVariables false
theorem WC.block {P : Program} {n id : Nat} {c : Code} {fr : Fr} {σ : Heap} {K : Exit → Fr → Heap → Prop} (h : Box (Tk.mk : Tk (WC P n c fr σ fun e fr σ => match e with
    | .exit i => if i = id then K .normal fr σ else K (.exit i) fr σ
    | e => K e fr σ))) : Box (Tk.mk : Tk (WC P n (.block id c) fr σ K)) := by
  intro hfit w0 D0 G a w hR
  refine wp_block (wp_mono (h hfit w0 D0 G a w hR) fun e a w hp => ?_)
  cases e <;> try exact hp
  case exit i =>
    obtain ⟨fr', σ', hk, hR'⟩ := hp
    simp only at hk
    simp only [Exit.inBlock]
    split
    · rename_i hi; rw [if_pos hi] at hk; exact ⟨fr', σ', hk, hR'⟩
    · rename_i hi; rw [if_neg hi] at hk; exact ⟨fr', σ', hk, hR'⟩
/-- Two pieces of code, one behind the other. -/
theorem WC.seq {P : Program} {n : Nat} {c1 c2 : Code} {fr : Fr} {σ : Heap} {K : Exit → Fr → Heap → Prop}
    (h : Box (Tk.mk : Tk (WC P n c1 fr σ fun e fr' σ' => match e with
      | .normal => Box (Tk.mk : Tk (WC P n c2 fr' σ' K))
      | e => K e fr' σ'))) : Box (Tk.mk : Tk (WC P n (.seq c1 c2) fr σ K)) := by
  intro hfit w0 D0 G a w hR
  simp only [fits, Bool.and_eq_true] at hfit
  refine wp_seq (wp_mono (h hfit.1 w0 D0 G a w hR) fun e a w hp => ?_)
  cases e <;> first
    | exact hp
    | (obtain ⟨fr', σ', hk, hR'⟩ := hp; exact hk hfit.2 w0 D0 G a w hR')
end Go.Ls
