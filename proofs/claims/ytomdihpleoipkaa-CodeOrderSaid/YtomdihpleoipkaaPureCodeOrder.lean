/- CodeOrder, in plain words: two numbers stand in the order of their bytes, and of these in 16 signs; and are read again. No condition. -/
import Derived.Test.YtomdihpleoipkaaPCx4
import Derived.Test.YtomdihpleoipkaaSem6
import Derived.OpenShut
namespace Go.Proofs.Ytomdihpleoipkaa.Pure
open Go.RowKit Go.Proofs.Ytomdihpleoipkaa.PC Go.Proofs.YtomdihpleoipkaaW.PrintWords Go.Proofs.YtomdihpleoipkaaW.PrintLast Go.Proofs.Ytomdihpleoipkaa.Sem Go.Proofs.Ytomdihpleoipkaa.Math
set_option linter.unusedVariables false

theorem wf_nat2 {a : Int} (h : (Lit.int .u64 a).wf = true) : ∃ n : Nat, a = n ∧ n < 18446744073709551616 := by
  obtain ⟨h0, h1⟩ := bounds_u64 h
  obtain ⟨n, rfl⟩ := Int.eq_ofNat_of_zero_le h0
  exact ⟨n, rfl, by omega⟩
theorem vb_be8 (n : Nat) (h : n < 18446744073709551616) : vb 0 (be 8 n) = n := by rw [vb_be]; omega
theorem CodeOrder : bulletinlaw05_CodeOrder.Pure := by
  intro a b ha hb
  obtain ⟨n, rfl, hn⟩ := wf_nat2 ha
  obtain ⟨m, rfl, hm⟩ := wf_nat2 hb
  have hnum := number_good (str (be 8 n)) (by rw [str_size, be_length])
  rw [nats_str (be_lt 8 n), vb_be8 n hn] at hnum
  have hless : lessN (be 8 n) (be 8 m) = decide ((n : Int) < (m : Int)) := by
    rw [less_vb _ _ 0 (by rw [be_length, be_length]) (be_lt 8 n) (be_lt 8 m), vb_be8 n hn, vb_be8 m hm, decide_eq_decide]
    omega
  have h1 : ((Op.bytesLess (str (be 8 n)).toList (str (be 8 m)).toList) == (decide ((n : Int) < (m : Int)))) = true := by
    rw [less_bytes _ _ (be_lt 8 n) (be_lt 8 m), hless, beq_self_eq_true]
  have h2 : ((Op.bytesLess (str (hexes (be 8 n))).toList (str (hexes (be 8 m))).toList) == (decide ((n : Int) < (m : Int)))) = true := by
    rw [less_bytes _ _ (hexes_lt _ (be_lt 8 n)) (hexes_lt _ (be_lt 8 m)), less_hexes _ _ (by rw [be_length, be_length]) (be_lt 8 n) (be_lt 8 m), hless, beq_self_eq_true]
  have h3 : (((str (be 8 n)).toList == (str (be 8 m)).toList) == ((n : Int) == (m : Int))) = true := by
    rw [beq_iff_eq, Bool.eq_iff_iff, beq_iff_eq, beq_iff_eq, toList_inj]
    constructor
    · intro h
      have h' := congrArg nats h
      rw [nats_str (be_lt 8 n), nats_str (be_lt 8 m)] at h'
      have := congrArg (vb 0) h'
      rw [vb_be8 n hn, vb_be8 m hm] at this
      omega
    · intro h
      rw [show n = m by omega]
  suffices h : Ev (fun k => bulletinlaw05_CodeOrder.f k (n : Int) (m : Int)) true from h.rounds
  refine Ev.bind works_ev ?_
  refine Ev.congr (fun k => (if_pos rfl).trans (by rw [bytes_eq, bytes_eq]; rfl)) (Ev.bind hnum ?_)
  refine Ev.congr (fun k => if_pos h1) (Ev.bind (to16_be _ (be_lt 8 n) (by rw [be_length]; omega)) (Ev.bind (to16_be _ (be_lt 8 m) (by rw [be_length]; omega)) ?_))
  exact Ev.congr (fun k => (if_pos h2).trans ((if_pos h3).trans (if_pos rfl))) (Ev.now _)

end Go.Proofs.Ytomdihpleoipkaa.Pure
