/- Words, quoted texts and rows of tokens: the program and the reference write the same bytes. Whatever the text and the tokens. -/
import Derived.Test.YtldmldhnhfjmlaaSemG
namespace Go.Proofs.Ytldmldhnhfjmlaa.Pure
open Go.RowKit Go.Proofs.Ytldmldhnhfjmlaa.PL Go.Proofs.YtldmldhnhfjmlaaW.PrintWords Go.Proofs.YtldmldhnhfjmlaaW.PrintLast Go.Proofs.Ytldmldhnhfjmlaa.Math Go.Proofs.Ytldmldhnhfjmlaa.Base Go.Proofs.Ytldmldhnhfjmlaa.Sem
set_option linter.unusedVariables false

theorem writes_loop {l : List Nat} (hb : Bytes l) (hl : l.length ≤ 1000) {G : List Gk} (hG : G.length ≤ 50) (hGb : ∀ g ∈ G, Bytes g.2) :
    ∀ (n i : Nat), G.length - i ≤ n → i ≤ G.length → (∀ g ∈ G.take i, g.2.length ≤ 100) → Ev (fun k => bulletinlaw12_LexWrites.l0 k (str l) (G.map g37) (i : Int)) true := by
  have stop : ∀ (i : Nat), G.length ≤ i → (∀ g ∈ G.take i, g.2.length ≤ 100) → Ev (fun k => bulletinlaw12_LexWrites.l0 k (str l) (G.map g37) (i : Int)) true := by
    intro i hi ht
    rw [List.take_of_length_le hi] at ht
    have hF : Fits G := ⟨by omega, fun g hg => ⟨hGb g hg, by have := ht g hg; omega⟩⟩
    refine Ev.step (f := fun k => ((lex_IsAtom.f k (str l)).bind fun t274 => ((bulletinref12_IsAtom.f k (str l)).bind fun t275 => (if (t274 == t275) = true then ((lex_Quote.f k (str l)).bind fun t276 => ((bulletinref12_Quote.f k (str l)).bind fun t277 => (if t276.toList = t277.toList then ((lex_Word.f k (str l)).bind fun t278 => ((bulletinref12_Word.f k (str l)).bind fun t279 => (if t278.toList = t279.toList then ((bulletinlaw12_To.f k (G.map g37)).bind fun t280 => ((lex_Print.f k t280).bind fun t283 => ((bulletinref12_Print.f k (G.map g37)).bind fun t284 => (if t283.toList = t284.toList then ((bulletinlaw12_works.f k).bind fun t285 => (some t285)) else (some false))))) else (some false)))) else (some false)))) else (some false))))) (fun k => ?_) ?_
    · conv => lhs; unfold bulletinlaw12_LexWrites.l0
      exact if_neg (by rw [List.length_map]; omega)
    refine Ev.bind (lexa_ev hb (by omega)) (Ev.bind (refa_ev hb (by omega)) (Ev.congr (fun k => if_pos (beq_iff_eq.2 rfl)) ?_))
    refine Ev.bind (lexq_ev hb (by omega)) (Ev.bind (refq_ev hb (by omega)) (Ev.congr (fun k => if_pos rfl) ?_))
    refine Ev.bind (lexw_ev hb (by omega)) (Ev.bind (refw_ev hb (by omega)) (Ev.congr (fun k => if_pos rfl) ?_))
    refine Ev.bind (to_ev (G := G) (by omega)) (Ev.bind (lexp_ev hF) (Ev.bind (refp_ev hF) (Ev.congr (fun k => if_pos rfl) ?_)))
    exact Ev.bind works_ev (Ev.now _)
  intro n
  induction n with
  | zero => intro i hn hi ht; exact stop i (by omega) ht
  | succ n ih =>
    intro i hn hi ht
    rcases Nat.lt_or_ge i G.length with h | h
    · refine Ev.step (f := fun k => if ((str (G.getD i (0, [])).2).size : Int) > 100 then ((bulletinlaw12_works.f k).bind fun t273 => (some t273)) else bulletinlaw12_LexWrites.l0 k (str l) (G.map g37) ((i + 1 : Nat) : Int)) (fun k => ?_) ?_
      · conv => lhs; unfold bulletinlaw12_LexWrites.l0
        rw [List.length_map, if_pos (by omega), if_pos (by omega), grd37, w64 (by omega) (by omega)]
        rfl
      · by_cases hc : ((str (G.getD i (0, [])).2).size : Int) > 100
        · exact Ev.congr (fun k => if_pos hc) (Ev.bind works_ev (Ev.now _))
        · refine Ev.congr (fun k => if_neg hc) (ih (i + 1) (by omega) (by omega) (fun g hm => ?_))
          rw [List.take_succ_eq_append_getElem h] at hm
          rcases List.mem_append.1 hm with hm | hm
          · exact ht g hm
          · rw [List.mem_singleton.1 hm]
            rw [List.getD_eq_getElem?_getD, List.getElem?_eq_getElem h, str_size] at hc
            simp only [Option.getD_some] at hc
            omega
    · exact stop i h ht
theorem LexWrites (a0 : ByteArray) (l1 : List S37) : ∃ k, bulletinlaw12_LexWrites.f k a0 l1 = some true := by
  refine Ev.rounds (g := fun k => bulletinlaw12_LexWrites.f k a0 l1) ?_
  have out : Ev (fun k => bulletinlaw12_LexWrites.j0 k a0 l1 true) true := Ev.step (fun k => rfl) (Ev.bind works_ev (Ev.now true))
  by_cases hs : (a0.size : Int) > 1000
  · exact Ev.congr (fun k => if_pos hs) out
  refine Ev.congr (fun k => if_neg hs) ?_
  by_cases hn : (l1.length : Int) > 50
  · rw [decide_eq_true hn]; exact out
  rw [decide_eq_false hn]
  have e : (l1.map fun x : S37 => ((x.f0, nats x.f1) : Gk)).map g37 = l1 := by
    rw [List.map_map]
    conv => rhs; rw [← List.map_id l1]
    refine List.map_congr_left fun x _ => ?_
    show (⟨x.f0, str (nats x.f1)⟩ : S37) = x
    rw [str_nats]
  have := writes_loop (nats_lt a0) (by rw [nats_length]; omega) (G := l1.map fun x : S37 => ((x.f0, nats x.f1) : Gk)) (by rw [List.length_map]; omega) (by
    intro g hg
    obtain ⟨x, _, rfl⟩ := List.mem_map.1 hg
    exact nats_lt _) _ 0 (Nat.le_refl _) (by omega) (fun g h => by cases h)
  rw [str_nats, e] at this
  exact Ev.step (f := fun k => bulletinlaw12_LexWrites.l0 k a0 l1 0) (fun k => rfl) this
end Go.Proofs.Ytldmldhnhfjmlaa.Pure
