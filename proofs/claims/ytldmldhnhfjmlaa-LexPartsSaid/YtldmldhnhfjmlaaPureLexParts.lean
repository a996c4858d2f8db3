/- Two texts with a blank between them read as the tokens of the one and the tokens of the other. -/
import Derived.Test.YtldmldhnhfjmlaaSemF
import Derived.Test.YtldmldhnhfjmlaaPLx9
namespace Go.Proofs.Ytldmldhnhfjmlaa.Pure
open Go.RowKit Go.Proofs.Ytldmldhnhfjmlaa.PL Go.Proofs.YtldmldhnhfjmlaaW.PrintWords Go.Proofs.YtldmldhnhfjmlaaW.PrintLast Go.Proofs.Ytldmldhnhfjmlaa.Math Go.Proofs.Ytldmldhnhfjmlaa.Base Go.Proofs.Ytldmldhnhfjmlaa.Sem
set_option linter.unusedVariables false

theorem parts_end {x y : ByteArray} (hx : x.size ≤ 500) (hy : y.size ≤ 500) (b : Nat) (hb : white b = true) (hb2 : b < 256) :
    Ev (fun k => bulletinlaw12_LexParts.j1 k x y (resS [] (scan (nats x))).1 (resS [] (scan (nats x))).2 (resS [] (scan (nats y))).1 (resS [] (scan (nats y))).2 (str [b])) true := by
  have b1 := nats_lt x
  have b2 := nats_lt y
  have l1 : (nats x).length ≤ 500 := by rw [nats_length]; omega
  have l2 : (nats y).length ≤ 500 := by rw [nats_length]; omega
  have hc : Bytes (nats x ++ b :: nats y) := Bytes.append b1 (fun c hc => (List.mem_cons.1 hc).elim (fun h => h ▸ hb2) (b2 c))
  have e : x ++ str [b] ++ y = str (nats x ++ b :: nats y) := by
    rw [show nats x ++ b :: nats y = nats x ++ [b] ++ nats y by simp, str_append, str_append, str_nats, str_nats]
  have sc := scan_ev _ hc (by simp only [List.length_append, List.length_cons]; omega)
  refine Ev.step (f := fun k => (lex_Scan.f k (str (nats x ++ b :: nats y))).bind fun bt237 => (if (resS [] (scan (nats x))).2 = 0 then (if (resS [] (scan (nats y))).2 = 0 then (if ([] : List (S43)).length + (resS [] (scan (nats x))).1.length < 5864062014805 then ((some (([] : List (S43)) ++ (resS [] (scan (nats x))).1 : List (S43))).bind fun y241 => (if y241.length + (resS [] (scan (nats y))).1.length < 5864062014805 then (if bt237.2 = 0 then ((bulletinlaw12_alike.f k bt237.1 (y241 ++ (resS [] (scan (nats y))).1)).bind fun t247 => (some t247)) else (some false)) else (none))) else (none)) else (some true)) else (some true))) (fun k => ?_) (Ev.bind sc ?_)
  · conv => lhs; unfold bulletinlaw12_LexParts.j1
    have s1 : (x ++ str [b]).size = x.size + 1 := by rw [ByteArray.size_append, str_size]; rfl
    dsimp only
    rw [e, s1, str_size, if_pos (by simp only [List.length_singleton]; omega), if_pos (by omega)]
  cases h1 : scan (nats x) with
  | error e1 =>
    have := scan_code _ e1 h1
    exact Ev.congr (fun k => if_neg (show ¬ ((e1 : Nat) : Int) = 0 by omega)) (Ev.now _)
  | ok A =>
    refine Ev.congr (fun k => if_pos rfl) ?_
    cases h2 : scan (nats y) with
    | error e2 =>
      have := scan_code _ e2 h2
      exact Ev.congr (fun k => if_neg (show ¬ ((e2 : Nat) : Int) = 0 by omega)) (Ev.now _)
    | ok C =>
      have g1 := (scan_good b1 h1).2
      have g2 := (scan_good b2 h2).2
      have w1 := weight_length A
      have w2 := weight_length C
      have := scan_ext b (nats y) hb _ (nats x) A (Nat.le_refl _) h1
      rw [h2] at this
      rw [this]
      have al := alike_ev (A ++ C) (by rw [List.length_append]; omega)
      have mA : (A.map tok43).length < 5864062014805 := by rw [List.length_map]; omega
      refine Ev.congr (fun k => (if_pos rfl).trans (if_pos ?_)) ?_
      · show 0 + (A.map tok43).length < 5864062014805
        omega
      refine Ev.congr (fun k => if_pos ?_) ?_
      · show (A.map tok43).length + (C.map tok43).length < 5864062014805
        rw [List.length_map, List.length_map]; omega
      refine Ev.congr (fun k => if_pos rfl) (Ev.bind (a := true) ?_ (Ev.now _))
      have e3 : ([] : List S43) ++ A.map tok43 ++ C.map tok43 = (A ++ C).map tok43 := by rw [List.nil_append, List.map_append]
      show Ev (fun k => bulletinlaw12_alike.f k ((A ++ C).map tok43) (([] : List S43) ++ A.map tok43 ++ C.map tok43)) true
      rw [e3]
      exact al
theorem LexParts : bulletinlaw12_LexParts.Pure := by
  intro a0 a1 a2 h0 h1
  refine Ev.rounds (g := fun k => bulletinlaw12_LexParts.f k a0 a1 a2) (Ev.bind (g := fun k => bulletinlaw12_works.f k) works_ev (Ev.congr (fun k => if_pos rfl) ?_))
  have out : Ev (fun k => bulletinlaw12_LexParts.j0 k a0 a1 a2 true) true := Ev.step (fun k => rfl) (Ev.now true)
  by_cases hs : (a0.size : Int) > 500
  · exact Ev.congr (fun k => if_pos hs) out
  refine Ev.congr (fun k => if_neg hs) ?_
  by_cases hs1 : (a1.size : Int) > 500
  · rw [decide_eq_true hs1]; exact out
  rw [decide_eq_false hs1]
  have s0 := scan_ev _ (nats_lt a0) (by rw [nats_length]; omega)
  have s1 := scan_ev _ (nats_lt a1) (by rw [nats_length]; omega)
  rw [str_nats] at s0 s1
  refine Ev.step (fun k => rfl) (Ev.bind s0 (Ev.bind s1 ?_))
  cases a2 with
  | true => exact Ev.congr (fun k => if_pos rfl) (parts_end (by omega) (by omega) 9 rfl (by decide))
  | false => exact Ev.congr (fun k => if_neg (by decide)) (parts_end (by omega) (by omega) 32 rfl (by decide))
end Go.Proofs.Ytldmldhnhfjmlaa.Pure
