/- A text written as a word, or between quotation marks, reads back as one token that has it. -/
import Derived.Test.YtldmldhnhfjmlaaSemF
import Derived.Test.YtldmldhnhfjmlaaPLx12
namespace Go.Proofs.Ytldmldhnhfjmlaa.Pure
open Go.RowKit Go.Proofs.Ytldmldhnhfjmlaa.PL Go.Proofs.YtldmldhnhfjmlaaW.PrintWords Go.Proofs.YtldmldhnhfjmlaaW.PrintLast Go.Proofs.Ytldmldhnhfjmlaa.Math Go.Proofs.Ytldmldhnhfjmlaa.Base Go.Proofs.Ytldmldhnhfjmlaa.Sem
set_option linter.unusedVariables false

theorem scan_quote {l : List Nat} (hb : Bytes l) (ht : ∀ c ∈ l, isText c = true) : scan (quoteL l) = .ok [(2, l)] := by
  have := scan_quoted (rest := []) ht
  rw [List.append_nil, scan_nil] at this
  exact this
theorem scan_word {l : List Nat} (hb : Bytes l) (ht : ∀ c ∈ l, isText c = true) : scan (wordL l) = .ok [(if isAtom l = true then 1 else 2, l)] := by
  unfold wordL
  by_cases h : isAtom l = true
  · rw [if_pos h, if_pos h]
    unfold isAtom at h
    rw [Bool.and_eq_true, decide_eq_true_eq, List.all_eq_true] at h
    have := scan_atom (rest := []) h.1 h.2 (fun c r e => by cases e)
    rw [List.append_nil, scan_nil] at this
    exact this
  · rw [if_neg h, if_neg h]
    exact scan_quote hb ht
theorem word_loop {l : List Nat} (hb : Bytes l) (hl : l.length ≤ 500) : ∀ (n i : Nat), l.length - i ≤ n → i ≤ l.length → (∀ c ∈ l.take i, isText c = true) →
    Ev (fun k => bulletinlaw12_LexWord.l0 k (str l) (l.length : Int) (i : Int)) true := by
  have stop : ∀ (i : Nat), l.length ≤ i → (∀ c ∈ l.take i, isText c = true) → Ev (fun k => bulletinlaw12_LexWord.l0 k (str l) (l.length : Int) (i : Int)) true := by
    intro i hi ht
    rw [List.take_of_length_le hi] at ht
    have ql := quoteL_length l
    have wl : (wordL l).length ≤ 2 * l.length + 2 := by unfold wordL; split <;> omega
    have wb : Bytes (wordL l) := by
      unfold wordL
      split
      · exact hb
      · exact quoteL_bytes hb
    have s1 := scan_ev _ wb (by omega)
    have s2 := scan_ev _ (quoteL_bytes hb) (by omega)
    rw [scan_word hb ht] at s1
    rw [scan_quote hb ht] at s2
    refine Ev.step (f := fun k => ((lex_Word.f k (str l)).bind fun t288 => ((lex_Scan.f k t288).bind fun bt289 => ((lex_Quote.f k (str l)).bind fun t293 => ((lex_Scan.f k t293).bind fun bt294 => (if bt289.2 = 0 then (if bt294.2 = 0 then (if (bt289.1.length : Int) = 1 then (if (bt294.1.length : Int) = 1 then (if 0 < (bt289.1.length : Int) then (if ((rd_T43 bt289.1 0).f1).toList = (str l).toList then (if 0 < (bt294.1.length : Int) then (if ((rd_T43 bt294.1 0).f1).toList = (str l).toList then (if ((rd_T43 bt294.1 0).f0) = 2 then ((lex_IsAtom.f k (str l)).bind fun t302 => (some ((((rd_T43 bt289.1 0).f0) == 1) == t302))) else (none)) else (none)) else (none)) else (none)) else (none)) else (none)) else (none)) else (none)) else (none))))))) (fun k => ?_) ?_
    · conv => lhs; unfold bulletinlaw12_LexWord.l0
      exact if_neg (by omega)
    refine Ev.bind (lexw_ev hb (by omega)) (Ev.bind s1 (Ev.bind (lexq_ev hb (by omega)) (Ev.bind s2 ?_)))
    refine Ev.congr (fun k => (if_pos rfl).trans ((if_pos rfl).trans ((if_pos rfl).trans ((if_pos rfl).trans ((if_pos (show (0 : Int) < ((1 : Nat) : Int) by decide)).trans ((if_pos rfl).trans ((if_pos (show (0 : Int) < ((1 : Nat) : Int) by decide)).trans ((if_pos rfl).trans (if_pos rfl))))))))) ?_
    refine Ev.bind (lexa_ev hb (by omega)) ?_
    by_cases h : isAtom l = true
    · rw [h]; exact Ev.now _
    · rw [show isAtom l = false by simpa using h]; exact Ev.now _
  intro n
  induction n with
  | zero => intro i hn hi ht; exact stop i (by omega) ht
  | succ n ih =>
    intro i hn hi ht
    rcases Nat.lt_or_ge i l.length with h | h
    · refine Ev.step (f := fun k => if isText (l.getD i 0) = true then bulletinlaw12_LexWord.l0 k (str l) (l.length : Int) ((i + 1 : Nat) : Int) else some true) (fun k => ?_) ?_
      · conv => lhs; unfold bulletinlaw12_LexWord.l0
        rw [bt_str hb i, str_size, if_pos (by omega), if_pos (by omega), if_pos (by omega), rtext_eq _ (getD_byte hb i), w64 (by omega) (by omega)]
        rfl
      · by_cases hc : isText (l.getD i 0) = true
        · refine Ev.congr (fun k => if_pos hc) (ih (i + 1) (by omega) (by omega) (fun c hm => ?_))
          rw [List.take_succ_eq_append_getElem h] at hm
          rcases List.mem_append.1 hm with hm | hm
          · exact ht c hm
          · rw [List.mem_singleton.1 hm]
            rw [List.getD_eq_getElem?_getD, List.getElem?_eq_getElem h] at hc
            exact hc
        · exact Ev.congr (fun k => if_neg hc) (Ev.now _)
    · exact stop i h ht
theorem LexWord : bulletinlaw12_LexWord.Pure := by
  intro a0 h0
  refine Ev.rounds (g := fun k => bulletinlaw12_LexWord.f k a0) (Ev.bind (g := fun k => bulletinlaw12_works.f k) works_ev (Ev.congr (fun k => if_pos rfl) ?_))
  by_cases hs : (a0.size : Int) > 500
  · exact Ev.congr (fun k => if_pos hs) (Ev.now _)
  refine Ev.congr (fun k => if_neg hs) ?_
  have := word_loop (nats_lt a0) (by rw [nats_length]; omega) (nats a0).length 0 (by omega) (by omega) (fun c h => by cases h)
  rw [str_nats, nats_length] at this
  exact this
end Go.Proofs.Ytldmldhnhfjmlaa.Pure
