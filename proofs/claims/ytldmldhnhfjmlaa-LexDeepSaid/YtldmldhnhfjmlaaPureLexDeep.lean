/- A text in so many round brackets: the program's scanner and the reference's tell the same. -/
import Derived.Test.YtldmldhnhfjmlaaSemD
namespace Go.Proofs.Ytldmldhnhfjmlaa.Pure
open Go.RowKit Go.Proofs.Ytldmldhnhfjmlaa.PL Go.Proofs.YtldmldhnhfjmlaaW.PrintWords Go.Proofs.YtldmldhnhfjmlaaW.PrintLast Go.Proofs.Ytldmldhnhfjmlaa.Base Go.Proofs.Ytldmldhnhfjmlaa.Sem

theorem deep_loop {a : Int} (ha : a ≤ 40) : ∀ (n i : Nat) (x : ByteArray), a.toNat - i ≤ n → x.size ≤ 1000 + 2 * i → i ≤ 40 →
    Ev (fun k => bulletinlaw12_LexDeep.l0 k a x (i : Int)) true := by
  have stop : ∀ (i : Nat) (x : ByteArray), a ≤ (i : Int) → x.size ≤ 2000 → Ev (fun k => bulletinlaw12_LexDeep.l0 k a x (i : Int)) true := by
    intro i x hi hx
    have := scan_both (nats_lt x) (by rw [nats_length]; omega)
    rw [str_nats] at this
    refine Ev.step (fun k => ?_) this
    conv => lhs; unfold bulletinlaw12_LexDeep.l0
    rw [if_neg (by omega)]
  intro n
  induction n with
  | zero => intro i x hn hx hi; exact stop i x (by omega) (by omega)
  | succ n ih =>
    intro i x hn hx hi
    rcases Int.lt_or_le (i : Int) a with h | h
    · have s1 : ((⟨#[40]⟩ : ByteArray) ++ x).size = 1 + x.size := by rw [ByteArray.size_append]; rfl
      have s2 : (((⟨#[40]⟩ : ByteArray) ++ x) ++ (⟨#[41]⟩ : ByteArray)).size = 1 + x.size + 1 := by rw [ByteArray.size_append, s1]; rfl
      refine Ev.step (fun k => ?_) (ih (i + 1) (((⟨#[40]⟩ : ByteArray) ++ x) ++ (⟨#[41]⟩ : ByteArray)) (by omega) (by omega) (by omega))
      conv => lhs; unfold bulletinlaw12_LexDeep.l0
      rw [if_pos h, if_pos (by omega), if_pos (by omega), w64 (by omega) (by omega)]
      rfl
    · exact stop i x (by omega) (by omega)
theorem LexDeep : bulletinlaw12_LexDeep.Pure := by
  intro a0 a1 h0 h1
  refine Ev.rounds (g := fun k => bulletinlaw12_LexDeep.f k a0 a1) ?_
  have out : Ev (fun k => bulletinlaw12_LexDeep.j0 k a0 a1 true) true := by
    exact Ev.step (fun k => rfl) (Ev.bind works_ev (Ev.now true))
  by_cases hn : a0 < 0
  · exact Ev.congr (fun k => if_pos hn) out
  refine Ev.congr (fun k => if_neg hn) ?_
  by_cases h40 : a0 > 40
  · exact Ev.congr (fun k => if_pos h40) out
  refine Ev.congr (fun k => if_neg h40) ?_
  by_cases hs : (a1.size : Int) > 100
  · rw [decide_eq_true hs]; exact out
  · rw [decide_eq_false hs]
    exact Ev.step (f := fun k => bulletinlaw12_LexDeep.l0 k a0 a1 0) (fun k => rfl) (deep_loop (a := a0) (by omega) a0.toNat 0 a1 (by omega) (by omega) (by omega))
end Go.Proofs.Ytldmldhnhfjmlaa.Pure
