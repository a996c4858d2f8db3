/- CodeBack, in plain words: any bytes are read of their signs as they were, and what is read of any signs has just those. No condition. -/
import Derived.Test.YtomdihpleoipkaaPCx3
import Derived.Test.YtomdihpleoipkaaSem5
namespace Go.Proofs.Ytomdihpleoipkaa.Pure
open Go.RowKit Go.Proofs.Ytomdihpleoipkaa.PC Go.Proofs.YtomdihpleoipkaaW.PrintWords Go.Proofs.YtomdihpleoipkaaW.PrintLast Go.Proofs.Ytomdihpleoipkaa.Sem Go.Proofs.Ytomdihpleoipkaa.Math
set_option linter.unusedVariables false

theorem back_second (t : ByteArray) (ht : t.size ≤ 500) : Ev (fun k => bulletinlaw05_CodeBack.j1 k t false) true := by
  have hA := read_back S32 5 (by decide) (by decide) S32_size sg sg_back sg_lt bt_S32 t (by omega)
  have hB := read_back S16 4 (by decide) (by decide) S16_size hx hx_back hx_lt bt_S16 t (by omega)
  have step : ∀ k, bulletinlaw05_CodeBack.j1 (k + 1) t false = (code_Of32.f k t).bind fun bt149 => ((code_Of16.f k t).bind fun bt151 => (if bt149.2 = 0 then ((code_To32.f k bt149.1).bind fun t153 => (if t153.toList = t.toList then (if bt151.2 = 0 then ((code_To16.f k bt151.1).bind fun t154 => (some (t154.toList == t.toList))) else (if bt151.1.toList = ([] : List UInt8) then (some true) else ((code_To16.f k bt151.1).bind fun t155 => (some (t155.toList == t.toList))))) else (some false))) else (if bt149.1.toList = ([] : List UInt8) then (if bt151.2 = 0 then ((code_To16.f k bt151.1).bind fun t156 => (some (t156.toList == t.toList))) else (if bt151.1.toList = ([] : List UInt8) then (some true) else ((code_To16.f k bt151.1).bind fun t157 => (some (t157.toList == t.toList))))) else ((code_To32.f k bt149.1).bind fun t158 => (if t158.toList = t.toList then (if bt151.2 = 0 then ((code_To16.f k bt151.1).bind fun t159 => (some (t159.toList == t.toList))) else (if bt151.1.toList = ([] : List UInt8) then (some true) else ((code_To16.f k bt151.1).bind fun t160 => (some (t160.toList == t.toList))))) else (some false)))))) := by
    intro k
    simp only [bulletinlaw05_CodeBack.j1, Bool.false_eq_true, if_false]
  refine Ev.step step ?_
  have e0 : (⟨#[]⟩ : ByteArray).toList = ([] : List UInt8) := by rw [ByteArray.toList_eq]
  rcases hA with ⟨x, a1, a2⟩ | a1
  · rcases hB with ⟨y, b1, b2⟩ | b1
    · refine Ev.bind (of32_of a1) (Ev.bind (of16_of b1) ?_)
      refine Ev.congr (fun k => if_pos rfl) (Ev.bind (to32_of a2) ?_)
      refine Ev.congr (fun k => (if_pos rfl).trans (if_pos rfl)) (Ev.bind (to16_of b2) ?_)
      exact Ev.congr (fun k => by rw [beq_self_eq_true]) (Ev.now _)
    · refine Ev.bind (of32_of a1) (Ev.bind (of16_of b1) ?_)
      refine Ev.congr (fun k => if_pos rfl) (Ev.bind (to32_of a2) ?_)
      exact Ev.congr (fun k => (if_pos rfl).trans ((if_neg (by decide)).trans (if_pos e0))) (Ev.now _)
  · rcases hB with ⟨y, b1, b2⟩ | b1
    · refine Ev.bind (of32_of a1) (Ev.bind (of16_of b1) ?_)
      refine Ev.congr (fun k => (if_neg (by decide)).trans ((if_pos e0).trans (if_pos rfl))) (Ev.bind (to16_of b2) ?_)
      exact Ev.congr (fun k => by rw [beq_self_eq_true]) (Ev.now _)
    · refine Ev.bind (of32_of a1) (Ev.bind (of16_of b1) ?_)
      exact Ev.congr (fun k => (if_neg (by decide)).trans ((if_pos e0).trans ((if_neg (by decide)).trans (if_pos e0)))) (Ev.now _)

theorem CodeBack : bulletinlaw05_CodeBack.Pure := by
  intro s t _ _
  suffices h : Ev (fun k => bulletinlaw05_CodeBack.f k s t) true from h.rounds
  refine Ev.bind works_ev ?_
  have big : Ev (fun k => bulletinlaw05_CodeBack.j0 k s t true) true :=
    Ev.step (f := fun _ => some true) (fun k => by simp only [bulletinlaw05_CodeBack.j0, if_true]) (Ev.now _)
  by_cases h1 : (s.size : Int) > 500
  · exact Ev.congr (fun k => (if_pos rfl).trans (if_pos h1)) big
  by_cases h2 : (t.size : Int) > 500
  · exact Ev.congr (fun k => (if_pos rfl).trans ((if_neg h1).trans (by rw [decide_eq_true h2]))) big
  refine Ev.congr (f := fun k => bulletinlaw05_CodeBack.j0 k s t false) (fun k => (if_pos rfl).trans ((if_neg h1).trans (by rw [decide_eq_false h2]))) ?_
  obtain ⟨u, a1, a2⟩ := write_back S32 5 (by decide) (by decide) S32_size sg sg_back sg_lt bt_S32 s (by omega)
  obtain ⟨v, b1, b2⟩ := write_back S16 4 (by decide) (by decide) S16_size hx hx_back hx_lt bt_S16 s (by omega)
  have hs : ∀ k, bulletinlaw05_CodeBack.j0 (k + 1) s t false = (code_To32.f k s).bind fun t143 => ((code_Of32.f k t143).bind fun bt144 => ((code_To16.f k s).bind fun t146 => ((code_Of16.f k t146).bind fun bt147 => (if bt144.1.toList = s.toList then (if bt147.1.toList = s.toList then (if bt144.2 = 0 then (bulletinlaw05_CodeBack.j1 k t (bt147.2 != 0)) else (bulletinlaw05_CodeBack.j1 k t true)) else (bulletinlaw05_CodeBack.j1 k t true)) else (bulletinlaw05_CodeBack.j1 k t true))))) := by
    intro k
    simp only [bulletinlaw05_CodeBack.j0, Bool.false_eq_true, if_false]
  refine Ev.step hs (Ev.bind (to32_of a1) (Ev.bind (of32_of a2) (Ev.bind (to16_of b1) (Ev.bind (of16_of b2) ?_))))
  exact Ev.congr (fun k => (if_pos rfl).trans ((if_pos rfl).trans (if_pos rfl))) (back_second t (by omega))

end Go.Proofs.Ytomdihpleoipkaa.Pure
