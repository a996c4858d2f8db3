/- CodeNumbers, in plain words: the bytes of any number, and the number of any bytes, are the reference's. No condition. -/
import Derived.Test.YtomdihpleoipkaaPCx4
import Derived.Test.YtomdihpleoipkaaSem6
import Derived.OpenShut
namespace Go.Proofs.Ytomdihpleoipkaa.Pure
open Go.RowKit Go.Proofs.Ytomdihpleoipkaa.PC Go.Proofs.YtomdihpleoipkaaW.PrintWords Go.Proofs.YtomdihpleoipkaaW.PrintLast Go.Proofs.Ytomdihpleoipkaa.Sem Go.Proofs.Ytomdihpleoipkaa.Math
set_option linter.unusedVariables false

theorem wf_nat {a : Int} (h : (Lit.int .u64 a).wf = true) : ∃ n : Nat, a = n ∧ n < 18446744073709551616 := by
  obtain ⟨h0, h1⟩ := bounds_u64 h
  obtain ⟨n, rfl⟩ := Int.eq_ofNat_of_zero_le h0
  exact ⟨n, rfl, by omega⟩
theorem CodeNumbers : bulletinlaw05_CodeNumbers.Pure := by
  intro a s ha _
  obtain ⟨n, rfl, hn⟩ := wf_nat ha
  have hw : Ev (fun k => (bulletinlaw05_works.f k).bind fun t => some t) true := Ev.bind works_ev (Ev.now _)
  have hb := refbytes_ev n hn
  suffices h : Ev (fun k => bulletinlaw05_CodeNumbers.f k (n : Int) s) true from h.rounds
  by_cases h8 : s.size = 8
  · have hlt : vb 0 (nats s) < 18446744073709551616 := by
      have := vb_lt (nats s) 0 (nats_lt s)
      rw [nats_length, h8] at this
      omega
    have hm := refbytes_ev (vb 0 (nats s)) hlt
    have e : str (be 8 (vb 0 (nats s))) = s := by rw [be_vb 8 (nats s) 0 (by rw [nats_length, h8]) (nats_lt s), str_nats]
    rw [e] at hm
    refine Ev.bind (number_good s h8) ?_
    refine Ev.congr (fun k => (if_pos (by omega)).trans (if_pos rfl)) (Ev.bind hm ?_)
    refine Ev.congr (fun k => (if_pos rfl).trans (by rw [bytes_eq]; rfl)) (Ev.bind hb ?_)
    exact Ev.congr (fun k => if_pos rfl) hw
  · refine Ev.bind (number_bad s h8) ?_
    refine Ev.congr (fun k => (if_neg (by omega)).trans ((if_pos rfl).trans (by rw [bytes_eq]; rfl))) (Ev.bind hb ?_)
    exact Ev.congr (fun k => (if_pos rfl).trans (if_pos rfl)) hw

end Go.Proofs.Ytomdihpleoipkaa.Pure
