/- Of a text of at most a thousand bytes the program's scanner and the reference's tell the same tokens and the same code. -/
import Derived.Test.YtldmldhnhfjmlaaSemD
namespace Go.Proofs.Ytldmldhnhfjmlaa.Pure
open Go.RowKit Go.Proofs.Ytldmldhnhfjmlaa.PL Go.Proofs.YtldmldhnhfjmlaaW.PrintWords Go.Proofs.YtldmldhnhfjmlaaW.PrintLast Go.Proofs.Ytldmldhnhfjmlaa.Base Go.Proofs.Ytldmldhnhfjmlaa.Sem

theorem LexScans : bulletinlaw12_LexScans.Pure := by
  intro a0 h0
  refine Ev.rounds (g := fun k => bulletinlaw12_LexScans.f k a0) ?_
  by_cases hs : (a0.size : Int) > 1000
  · exact Ev.congr (fun k => if_pos hs) (Ev.bind works_ev (Ev.now _))
  · refine Ev.congr (fun k => if_neg hs) ?_
    have := scan_both (nats_lt a0) (by rw [nats_length]; omega)
    rw [str_nats] at this
    exact this
end Go.Proofs.Ytldmldhnhfjmlaa.Pure
