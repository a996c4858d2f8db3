/- The tokens of a text of at most a thousand bytes, written, read back as the same tokens. -/
import Derived.Test.YtldmldhnhfjmlaaSemF
namespace Go.Proofs.Ytldmldhnhfjmlaa.Pure
open Go.RowKit Go.Proofs.Ytldmldhnhfjmlaa.PL Go.Proofs.YtldmldhnhfjmlaaW.PrintWords Go.Proofs.YtldmldhnhfjmlaaW.PrintLast Go.Proofs.Ytldmldhnhfjmlaa.Math Go.Proofs.Ytldmldhnhfjmlaa.Base Go.Proofs.Ytldmldhnhfjmlaa.Sem
set_option linter.unusedVariables false

theorem toks (U : List Tok) : U.map tok43 = (U.map asG).map g43 := by rw [List.map_map]; rfl
theorem fits {l : List Nat} {U : List Tok} (hb : Bytes l) (hl : l.length ≤ 1000) (h : scan l = .ok U) : Fits (U.map asG) := by
  have hg := scan_good hb h
  have := weight_length U
  refine ⟨by rw [List.length_map]; omega, fun g hgm => ?_⟩
  obtain ⟨t, ht, rfl⟩ := List.mem_map.1 hgm
  have := weight_mem U t ht
  exact ⟨(hg.1 t ht).1, by show t.2.length ≤ 100000; omega⟩
theorem LexBack : bulletinlaw12_LexBack.Pure := by
  intro a0 h0
  refine Ev.rounds (g := fun k => bulletinlaw12_LexBack.f k a0) (Ev.bind (g := fun k => bulletinlaw12_works.f k) works_ev (Ev.congr (fun k => if_pos rfl) ?_))
  by_cases hs : (a0.size : Int) > 1000
  · exact Ev.congr (fun k => if_pos hs) (Ev.now _)
  refine Ev.congr (fun k => if_neg hs) ?_
  have hb := nats_lt a0
  have hl : (nats a0).length ≤ 1000 := by rw [nats_length]; omega
  have hsc := scan_ev (nats a0) hb (by omega)
  rw [str_nats] at hsc
  refine Ev.bind hsc ?_
  cases h : scan (nats a0) with
  | error e =>
    have := scan_code _ e h
    exact Ev.congr (fun k => if_neg (show ¬ ((e : Nat) : Int) = 0 by omega)) (Ev.now _)
  | ok U =>
    have hg := scan_good hb h
    have hw := weight_length U
    have hf := fits hb hl h
    have hp := print_length U false
    refine Ev.congr (fun k => if_pos rfl) (Ev.bind (a := str (printL false (U.map asG))) ?_ ?_)
    · have := lexp_ev hf
      rw [← toks] at this
      exact this
    · have hpb := print_bytes (U.map asG) false (fun g hgm => (hf.2 g hgm).1)
      have := scan_ev _ hpb (by omega)
      rw [scan_print U false hg.1] at this
      exact Ev.bind this (Ev.congr (fun k => if_pos rfl) (Ev.bind (alike_ev U (by omega)) (Ev.now _)))
end Go.Proofs.Ytldmldhnhfjmlaa.Pure
