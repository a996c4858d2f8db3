/- What the reference writes of a row of tokens, and the one row made of the other. Conditions: texts of at most a hundred thousand bytes, and as many tokens. -/
import Derived.Test.YtldmldhnhfjmlaaSemE
import Derived.Test.YtldmldhnhfjmlaaPLx11
namespace Go.Proofs.Ytldmldhnhfjmlaa.Sem
open Go.RowKit Go.Proofs.Ytldmldhnhfjmlaa.PL Go.Proofs.YtldmldhnhfjmlaaW.PrintWords Go.Proofs.YtldmldhnhfjmlaaW.PrintLast Go.Proofs.YtldmldhnhfjmlaaW.PrintMore Go.Proofs.Ytldmldhnhfjmlaa.Math Go.Proofs.Ytldmldhnhfjmlaa.Base
set_option linter.unusedVariables false

theorem refp_ev {G : List Gk} (hG : Fits G) : Ev (fun k => bulletinref12_Print.f k (G.map g37)) (str (printL false G)) := by
  have hlen := hG.1
  have key : ∀ (n i : Nat) (o : List Nat), G.length - i ≤ n → i ≤ G.length → o.length ≤ i * 300000 →
      Ev (fun k => bulletinref12_Print.l0 k (G.map g37) (str o) (i : Int)) (str (o ++ printL (prev G i) (G.drop i))) := by
    have stop : ∀ (i : Nat) (o : List Nat), G.length ≤ i → Ev (fun k => bulletinref12_Print.l0 k (G.map g37) (str o) (i : Int)) (str (o ++ printL (prev G i) (G.drop i))) := by
      intro i o hi
      rw [List.drop_of_length_le hi]
      refine Ev.step (f := fun _ => some _) (fun k => ?_) (Ev.now _)
      conv => lhs; unfold bulletinref12_Print.l0
      rw [List.length_map, if_neg (by omega), printL, List.append_nil]
    intro n
    induction n with
    | zero => intro i o hn hi ho; exact stop i o (by omega)
    | succ n ih =>
      intro i o hn hi ho
      rcases Nat.lt_or_ge i G.length with h | h
      · have hg := hG.at h
        have hs := shown_length (G.getD i (0, []))
        have hbl := blank_length (prev G i && decide ((G.getD i (0, [])).1 ≠ 3))
        refine Ev.step (f := fun k => bulletinref12_Print.j1 k (G.map g37) (str o) (i : Int) (prev G i && decide ((G.getD i (0, [])).1 ≠ 3))) (fun k => ?_) ?_
        · conv => lhs; unfold bulletinref12_Print.l0
          rw [List.length_map, grd37, if_pos (by omega)]
          unfold prev
          by_cases h0 : i = 0
          · rw [if_neg (by omega), decide_eq_false (by omega)]
            rfl
          · rw [if_pos (by omega), w64 (x := (i : Int) - 1) (by omega) (by omega), show ((i : Int) - 1) = ((i - 1 : Nat) : Int) by omega, grd37, if_pos (c := (0 : Int) ≤ ((i - 1 : Nat) : Int)) (by omega), if_pos (c := ((i - 1 : Nat) : Int) < (G.length : Int)) (by omega), if_pos (c := (0 : Int) ≤ (i : Int)) (by omega)]
            by_cases hp : (G.getD (i - 1) (0, [])).1 = 3
            · rw [if_pos (show (g37 (G.getD (i - 1) (0, []))).f0 = 3 from hp), decide_eq_false (by omega), Bool.false_and]
            · rw [if_neg (show ¬ (g37 (G.getD (i - 1) (0, []))).f0 = 3 from hp), decide_eq_true (p := 0 < i ∧ (G.getD (i - 1) (0, [])).1 ≠ 3) (by omega), Bool.true_and]
              by_cases h3 : (G.getD i (0, [])).1 = 3
              · rw [decide_eq_false (by omega), show ((g37 (G.getD i (0, []))).f0 != 3) = false from bne_eq_false_iff_eq.2 h3]
              · rw [decide_eq_true (by omega), show ((g37 (G.getD i (0, []))).f0 != 3) = true from bne_iff_ne.2 h3]
        generalize hbq : (prev G i && decide ((G.getD i (0, [])).1 ≠ 3)) = b at hbl ⊢
        have next := ih (i + 1) (o ++ (blank b ++ shown (G.getD i (0, [])))) (by omega) (by omega) (by simp only [List.length_append]; omega)
        have hfin : str (o ++ (blank b ++ shown (G.getD i (0, []))) ++ printL (prev G (i + 1)) (G.drop (i + 1))) = str (o ++ printL (prev G i) (G.drop i)) := by
          rw [gdrop h, printL, prev_next, ← hbq]
          unfold blank
          simp only [Bool.and_eq_true, decide_eq_true_eq, List.append_assoc]
        rw [hfin] at next
        have e32 : (⟨#[32]⟩ : ByteArray) = str [32] := rfl
        by_cases h2 : (G.getD i (0, [])).1 = 2
        · have hq := refq_ev hg.1 hg.2
          have hql := quoteL_length (G.getD i (0, [])).2
          have es : shown (G.getD i (0, [])) = quoteL (G.getD i (0, [])).2 := if_pos h2
          rw [es] at next
          refine Ev.step (f := fun k => (bulletinref12_Quote.f k (str (G.getD i (0, [])).2)).bind fun t => if (str (o ++ blank b)).size + t.size ≤ 9223372036854775807 then bulletinref12_Print.l0 k (G.map g37) (str (o ++ blank b) ++ t) ((i + 1 : Nat) : Int) else none) (fun k => ?_) (Ev.bind hq ?_)
          · conv => lhs; unfold bulletinref12_Print.j1
            rw [w64 (by omega) (by omega), grd37, List.length_map, if_pos (c := (0 : Int) ≤ (i : Int)) (by omega), if_pos (c := (i : Int) < (G.length : Int)) (by omega), e32, ← str_append, str_size o, if_pos (c := o.length + 1 ≤ 9223372036854775807) (by omega)]
            rw [if_pos (show (g37 (G.getD i (0, []))).f0 = 2 from h2), if_pos (show (g37 (G.getD i (0, []))).f0 = 2 from h2)]
            cases b with
            | true => rfl
            | false => rw [if_neg (show ¬ (false = true) by decide), if_pos (c := (0 : Int) ≤ (i : Int)) (by omega), if_pos (c := (i : Int) < (G.length : Int)) (by omega), show o ++ blank false = o from List.append_nil o, str_size]; rfl
          · refine Ev.congr (fun k => if_pos (by rw [str_size, str_size, List.length_append]; omega)) ?_
            rw [← str_append, List.append_assoc]
            exact next
        · have es : shown (G.getD i (0, [])) = (G.getD i (0, [])).2 := if_neg h2
          rw [es] at next
          refine Ev.step (f := fun k => bulletinref12_Print.l0 k (G.map g37) (str (o ++ blank b) ++ str (G.getD i (0, [])).2) ((i + 1 : Nat) : Int)) (fun k => ?_) ?_
          · conv => lhs; unfold bulletinref12_Print.j1
            rw [w64 (by omega) (by omega), grd37, List.length_map, if_pos (c := (0 : Int) ≤ (i : Int)) (by omega), if_pos (c := (i : Int) < (G.length : Int)) (by omega), e32, ← str_append, str_size o, if_pos (c := o.length + 1 ≤ 9223372036854775807) (by omega)]
            rw [if_neg (show ¬ (g37 (G.getD i (0, []))).f0 = 2 from h2), if_neg (show ¬ (g37 (G.getD i (0, []))).f0 = 2 from h2), show (g37 (G.getD i (0, []))).f1 = str (G.getD i (0, [])).2 from rfl, str_size, str_size]
            cases b with
            | true => rw [if_pos rfl, if_pos (by simp only [List.length_append, List.length_singleton]; omega)]; rfl
            | false => rw [if_neg (show ¬ (false = true) by decide), if_pos (c := (0 : Int) ≤ (i : Int)) (by omega), if_pos (c := (i : Int) < (G.length : Int)) (by omega), if_pos (by omega), show o ++ blank false = o from List.append_nil o]; rfl
          · rw [← str_append, List.append_assoc]
            exact next
      · exact stop i o h
  have := key G.length 0 [] (by omega) (by omega) (by simp)
  rw [List.drop_zero] at this
  exact this
theorem to_ev {G : List Gk} (hG : G.length ≤ 100000) : Ev (fun k => bulletinlaw12_To.f k (G.map g37)) (G.map g43) := by
  have key : ∀ (n i : Nat) (P : List Gk), G.length - i ≤ n → i ≤ G.length → P.length = i →
      Ev (fun k => bulletinlaw12_To.l0 k (G.map g37) (P.map g43) (i : Int)) ((P ++ G.drop i).map g43) := by
    have stop : ∀ (i : Nat) (P : List Gk), G.length ≤ i → Ev (fun k => bulletinlaw12_To.l0 k (G.map g37) (P.map g43) (i : Int)) ((P ++ G.drop i).map g43) := by
      intro i P hi
      rw [List.drop_of_length_le hi, List.append_nil]
      refine Ev.step (f := fun _ => some _) (fun k => ?_) (Ev.now _)
      conv => lhs; unfold bulletinlaw12_To.l0
      rw [List.length_map, if_neg (by omega)]
    intro n
    induction n with
    | zero => intro i P hn hi hP; exact stop i P (by omega)
    | succ n ih =>
      intro i P hn hi hP
      rcases Nat.lt_or_ge i G.length with h | h
      · have := ih (i + 1) (P ++ [G.getD i (0, [])]) (by omega) (by omega) (by simp; omega)
        rw [gdrop h]
        rw [List.append_assoc] at this
        refine Ev.step (fun k => ?_) this
        conv => lhs; unfold bulletinlaw12_To.l0
        rw [List.length_map, List.length_map, grd37, if_pos (by omega), if_pos (by omega), if_pos (by omega), w64 (by omega) (by omega), List.map_append]
        rfl
      · exact stop i P h
  have := key G.length 0 [] (by omega) (by omega) rfl
  rw [List.drop_zero] at this
  exact this
end Go.Proofs.Ytldmldhnhfjmlaa.Sem
