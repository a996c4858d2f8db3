/- The program's and the reference's tokens compare alike, and the program works at its one fixed example. Conditions as each statement names them. -/
import Derived.Test.YtldmldhnhfjmlaaSemC
import Derived.Test.YtldmldhnhfjmlaaPLx8
namespace Go.Proofs.Ytldmldhnhfjmlaa.Sem
open Go.RowKit Go.Proofs.Ytldmldhnhfjmlaa.PL Go.Proofs.YtldmldhnhfjmlaaW.PrintWords Go.Proofs.YtldmldhnhfjmlaaW.PrintLast Go.Proofs.YtldmldhnhfjmlaaW.PrintMore Go.Proofs.Ytldmldhnhfjmlaa.Math Go.Proofs.Ytldmldhnhfjmlaa.Base
set_option linter.unusedVariables false

set_option maxRecDepth 100000 in
theorem works_ev : Ev (fun k => bulletinlaw12_works.f k) true := Ev.of (k := 200) bulletinlaw12_works.mono (by decide +kernel)

/-! ### What a token has, and how many there are -/
theorem quo_size (w l : List Nat) (x : List Nat × List Nat) (h : quo w l = .ok x) : x.1.length + x.2.length + 1 ≤ w.length + l.length := by
  have key : ∀ (n : Nat) (w l : List Nat) (x : List Nat × List Nat), l.length ≤ n → quo w l = .ok x → x.1.length + x.2.length + 1 ≤ w.length + l.length := by
    intro n
    induction n with
    | zero => intro w l r hn h; rw [List.eq_nil_of_length_eq_zero (by omega : l.length = 0), quo] at h; cases h
    | succ n ih =>
      intro w l r hn h
      cases l with
      | nil => rw [quo] at h; cases h
      | cons c l =>
        simp only [List.length_cons] at hn ⊢
        have hl : (l.drop 1).length ≤ l.length := by rw [List.length_drop]; omega
        rw [quo] at h
        split at h
        · have := ih _ _ _ (by omega) h; omega
        split at h
        · split at h
          · cases h
          split at h
          · have := ih _ _ _ (by omega) h
            have hne : l ≠ [] := by assumption
            have := List.length_pos_iff.2 hne
            simp only [List.length_append, List.length_singleton, List.length_drop] at *
            omega
          · cases h
        split at h
        · cases h; simp only; omega
        split at h
        · have := ih _ _ _ (by omega) h
          simp only [List.length_append, List.length_singleton] at this
          omega
        · cases h
  exact key _ w l x (Nat.le_refl _) h
theorem quo_text (w l : List Nat) (x : List Nat × List Nat) (hw : ∀ c ∈ w, isText c = true) (h : quo w l = .ok x) : ∀ c ∈ x.1, isText c = true := by
  have one : ∀ (w : List Nat) (y : Nat), (∀ c ∈ w, isText c = true) → isText y = true → ∀ c ∈ w ++ [y], isText c = true := by
    intro w y hw hy c hc
    rcases List.mem_append.1 hc with h | h
    · exact hw c h
    · rw [List.mem_singleton.1 h]; exact hy
  have key : ∀ (n : Nat) (w l : List Nat) (x : List Nat × List Nat), l.length ≤ n → (∀ c ∈ w, isText c = true) → quo w l = .ok x → ∀ c ∈ x.1, isText c = true := by
    intro n
    induction n with
    | zero => intro w l r hn _ h; rw [List.eq_nil_of_length_eq_zero (by omega : l.length = 0), quo] at h; cases h
    | succ n ih =>
      intro w l r hn hw h
      cases l with
      | nil => rw [quo] at h; cases h
      | cons c l =>
        simp only [List.length_cons] at hn
        have hl : (l.drop 1).length ≤ l.length := by rw [List.length_drop]; omega
        rw [quo] at h
        split at h
        · exact ih _ _ _ (by omega) hw h
        split at h
        · split at h
          · cases h
          split at h
          · next ht => exact ih _ _ _ (by omega) (one _ _ hw ht) h
          · cases h
        split at h
        · cases h; exact hw
        split at h
        · next ht => exact ih _ _ _ (by omega) (one _ _ hw ht) h
        · cases h
  exact key _ w l x (Nat.le_refl _) hw h
theorem span_atomic (l : List Nat) : ∀ c ∈ (span l).1, atomic c = true := by
  induction l with
  | nil => intro c hc; cases hc
  | cons a l ih =>
    rw [span]
    split
    · intro c hc
      rcases List.mem_cons.1 hc with rfl | h
      · assumption
      · exact ih c h
    · intro c hc; cases hc
def Good (t : Tok) : Prop := Bytes t.2 ∧ ((t.1 = 1 ∧ t.2 ≠ [] ∧ ∀ c ∈ t.2, atomic c = true) ∨ (t.1 = 2 ∧ ∀ c ∈ t.2, isText c = true) ∨ (t.1 = 3 ∧ ∃ c, t.2 = [c] ∧ special c = true))
def weight : List Tok → Nat
  | [] => 0
  | t :: T => t.2.length + 1 + weight T
theorem weight_length (T : List Tok) : T.length ≤ weight T := by
  induction T with
  | nil => exact Nat.le_refl _
  | cons t T ih => simp only [weight, List.length_cons]; omega
theorem weight_mem (T : List Tok) : ∀ t ∈ T, t.2.length ≤ weight T := by
  induction T with
  | nil => intro t h; cases h
  | cons t T ih =>
    intro u hu
    simp only [weight]
    rcases List.mem_cons.1 hu with rfl | h
    · omega
    · have := ih u h; omega
theorem scan_good {l : List Nat} {U : List Tok} (hb : Bytes l) (h : scan l = .ok U) : (∀ t ∈ U, Good t) ∧ weight U ≤ 2 * l.length := by
  have key : ∀ (n : Nat) (l : List Nat) (U : List Tok), l.length ≤ n → Bytes l → scan l = .ok U → (∀ t ∈ U, Good t) ∧ weight U ≤ 2 * l.length := by
    intro n
    induction n with
    | zero =>
      intro l U hn hb h
      rw [List.eq_nil_of_length_eq_zero (by omega : l.length = 0), scan_nil] at h
      cases h
      exact ⟨fun t h => (by cases h), by simp [weight]⟩
    | succ n ih =>
      intro l U hn hb h
      cases l with
      | nil =>
        rw [scan_nil] at h
        cases h
        exact ⟨fun t h => (by cases h), by simp [weight]⟩
      | cons c r =>
        have hb1 := hb.tail
        have hdr : (r.drop 1).length ≤ r.length := by rw [List.length_drop]; omega
        simp only [List.length_cons] at hn ⊢
        have token : ∀ (t : Tok) (v : List Nat), Good t → v.length ≤ n → Bytes v → t.2.length + 1 + 2 * v.length ≤ 2 * (r.length + 1) → con t (scan v) = .ok U → (∀ t ∈ U, Good t) ∧ weight U ≤ 2 * (r.length + 1) := by
          intro t v hg hv hbv hs h
          cases hsv : scan v with
          | error e => rw [hsv] at h; cases h
          | ok V =>
            rw [hsv] at h
            cases h
            have := ih v V hv hbv hsv
            refine ⟨fun u hu => ?_, ?_⟩
            · rcases List.mem_cons.1 hu with rfl | h
              · exact hg
              · exact this.1 u h
            · simp only [weight]; omega
        rw [scan_cons] at h
        split at h
        · have := ih _ _ (by omega) hb1 h
          exact ⟨this.1, by omega⟩
        split at h
        · have := ih _ _ (by omega) (hb1.drop 1) h
          exact ⟨this.1, by omega⟩
        split at h
        · rcases comm_code 1 r with ⟨r2, hc⟩ | ⟨e, hc, he⟩
          · rw [hc] at h
            have hs := comm_shorter 1 r r2 hc
            have := ih _ _ (by omega) (bytes_of_comm hb1 hc) h
            exact ⟨this.1, by omega⟩
          · rw [hc] at h; cases h
        split at h
        · rcases quo_code [] r with ⟨x, hc⟩ | ⟨e, hc, he⟩
          · rw [hc] at h
            have hs := quo_size [] r x hc
            have hx := bytes_of_quo (fun _ h => by cases h) hb1 hc
            have ht := quo_text [] r x (fun _ h => by cases h) hc
            simp only [List.length_nil] at hs
            exact token (2, x.1) x.2 ⟨hx.1, .inr (.inl ⟨rfl, ht⟩)⟩ (by omega) hx.2 (by simp only; omega) h
          · rw [hc] at h; cases h
        split at h
        · next hs =>
          refine token (3, [c]) r ⟨?_, .inr (.inr ⟨rfl, c, rfl, hs⟩)⟩ (by omega) hb1 (by simp only [List.length_singleton]; omega) h
          intro y hy
          rw [List.mem_singleton.1 hy]
          exact hb.head
        split at h
        · next ha =>
          have e := congrArg List.length (span_append (c :: r))
          have hsh := span_shorter c r ha
          have hne : (span (c :: r)).1 ≠ [] := by rw [span, if_pos ha]; simp
          have := List.length_pos_iff.2 hne
          simp only [List.length_append, List.length_cons] at e hsh
          exact token (1, _) _ ⟨(span_bytes hb).1, .inl ⟨rfl, hne, span_atomic _⟩⟩ (by omega) (span_bytes hb).2 (by show (span (c :: r)).1.length + 1 + 2 * (span (c :: r)).2.length ≤ 2 * (r.length + 1); omega) h
        · cases h
  exact key _ l U (Nat.le_refl _) hb h
theorem scan_code (l : List Nat) (e : Nat) (h : scan l = .error e) : e ≠ 0 := by
  have key : ∀ (n : Nat) (l : List Nat), l.length ≤ n → scan l = .error e → e ≠ 0 := by
    intro n
    induction n with
    | zero => intro l hn h; rw [List.eq_nil_of_length_eq_zero (by omega : l.length = 0), scan_nil] at h; cases h
    | succ n ih =>
      intro l hn h
      cases l with
      | nil => rw [scan_nil] at h; cases h
      | cons c r =>
        have hdr : (r.drop 1).length ≤ r.length := by rw [List.length_drop]; omega
        simp only [List.length_cons] at hn
        have token : ∀ (t : Tok) (v : List Nat), v.length ≤ n → con t (scan v) = .error e → e ≠ 0 := by
          intro t v hv h
          cases hsv : scan v with
          | error e2 => rw [hsv] at h; cases h; exact ih v hv hsv
          | ok V => rw [hsv] at h; cases h
        rw [scan_cons] at h
        split at h
        · exact ih _ (by omega) h
        split at h
        · exact ih _ (by omega) h
        split at h
        · rcases comm_code 1 r with ⟨r2, hc⟩ | ⟨e, hc, he⟩
          · rw [hc] at h
            have hs := comm_shorter 1 r r2 hc
            exact ih _ (by omega) h
          · rw [hc] at h; cases h; exact he
        split at h
        · rcases quo_code [] r with ⟨x, hc⟩ | ⟨e, hc, he⟩
          · rw [hc] at h
            have hs := quo_size [] r x hc
            simp only [List.length_nil] at hs
            exact token _ _ (by omega) h
          · rw [hc] at h; cases h; exact he
        split at h
        · exact token _ _ (by omega) h
        split at h
        · next ha =>
          have hsh := span_shorter c r ha
          simp only [List.length_cons] at hsh
          exact token _ _ (by omega) h
        · cases h; decide
  exact key _ l (Nat.le_refl _) h

/-! ### Comparing -/
theorem rd43 (T : List Tok) (i : Nat) : rd_T43 (T.map tok43) (i : Int) = tok43 (T.getD i (0, [])) := by
  unfold rd_T43
  rw [Int.toNat_natCast, List.getD_eq_getElem?_getD, List.getD_eq_getElem?_getD, List.getElem?_map]
  cases T[i]? <;> rfl
theorem rd37 (T : List Tok) (i : Nat) : rd_T37 (T.map tok37) (i : Int) = tok37 (T.getD i (0, [])) := by
  unfold rd_T37
  rw [Int.toNat_natCast, List.getD_eq_getElem?_getD, List.getD_eq_getElem?_getD, List.getElem?_map]
  cases T[i]? <;> rfl
theorem same_ev (T : List Tok) (hT : T.length ≤ 1000000) : Ev (fun k => bulletinlaw12_Same.f k (T.map tok43) (T.map tok37)) true := by
  have key : ∀ (n i : Nat), T.length - i ≤ n → i ≤ T.length → Ev (fun k => bulletinlaw12_Same.l0 k (T.map tok43) (T.map tok37) true (i : Int)) true := by
    intro n
    induction n with
    | zero =>
      intro i hn hi
      refine Ev.step (f := fun _ => some true) (fun k => ?_) (Ev.now _)
      conv => lhs; unfold bulletinlaw12_Same.l0
      rw [if_pos rfl, List.length_map, if_neg (by omega)]
    | succ n ih =>
      intro i hn hi
      rcases Nat.lt_or_ge i T.length with h | h
      · refine Ev.step (fun k => ?_) (ih (i + 1) (by omega) (by omega))
        conv => lhs; unfold bulletinlaw12_Same.l0
        rw [if_pos rfl, List.length_map, List.length_map, if_pos (by omega), if_pos (by omega), if_pos (by omega), rd43, rd37, if_pos (c := (tok43 (T.getD i (0, []))).f0 = (tok37 (T.getD i (0, []))).f0) rfl, w64 (by omega) (by omega)]
        rw [show ((tok43 (T.getD i (0, []))).f1.toList == (tok37 (T.getD i (0, []))).f1.toList) = true from beq_iff_eq.2 rfl]
        rfl
      · refine Ev.step (f := fun _ => some true) (fun k => ?_) (Ev.now _)
        conv => lhs; unfold bulletinlaw12_Same.l0
        rw [if_pos rfl, List.length_map, if_neg (by omega)]
  refine Ev.congr (fun k => ?_) (key T.length 0 (by omega) (by omega))
  unfold bulletinlaw12_Same.f
  rw [List.length_map, List.length_map, beq_iff_eq.2 rfl]
  rfl
theorem alike_ev (T : List Tok) (hT : T.length ≤ 1000000) : Ev (fun k => bulletinlaw12_alike.f k (T.map tok43) (T.map tok43)) true := by
  have key : ∀ (n i : Nat), T.length - i ≤ n → i ≤ T.length → Ev (fun k => bulletinlaw12_alike.l0 k (T.map tok43) (T.map tok43) true (i : Int)) true := by
    intro n
    induction n with
    | zero =>
      intro i hn hi
      refine Ev.step (f := fun _ => some true) (fun k => ?_) (Ev.now _)
      conv => lhs; unfold bulletinlaw12_alike.l0
      rw [if_pos rfl, List.length_map, if_neg (by omega)]
    | succ n ih =>
      intro i hn hi
      rcases Nat.lt_or_ge i T.length with h | h
      · refine Ev.step (fun k => ?_) (ih (i + 1) (by omega) (by omega))
        conv => lhs; unfold bulletinlaw12_alike.l0
        rw [if_pos rfl, List.length_map, if_pos (by omega), if_pos (by omega), if_pos (by omega), w64 (by omega) (by omega)]
        rw [beq_iff_eq.2 rfl, beq_iff_eq.2 rfl]
        rfl
      · refine Ev.step (f := fun _ => some true) (fun k => ?_) (Ev.now _)
        conv => lhs; unfold bulletinlaw12_alike.l0
        rw [if_pos rfl, List.length_map, if_neg (by omega)]
  refine Ev.congr (fun k => ?_) (key T.length 0 (by omega) (by omega))
  unfold bulletinlaw12_alike.f
  rw [beq_iff_eq.2 rfl]
  rfl
theorem scan_both {l : List Nat} (hb : Bytes l) (hl : l.length ≤ 100000) : Ev (fun k => (lex_Scan.f k (str l)).bind fun bt194 => ((bulletinref12_Scan.f k (str l)).bind fun bt198 => ((bulletinlaw12_Same.f k bt194.1 bt198.1).bind fun t202 => (if t202 = true then (if bt194.2 = bt198.2 then ((bulletinlaw12_works.f k).bind fun t203 => (some t203)) else (some false)) else (some false))))) true := by
  refine Ev.bind (scan_ev l hb hl) (Ev.bind (ref_ev hb hl) ?_)
  cases h : scan l with
  | error e =>
    exact Ev.bind (same_ev [] (by simp)) (Ev.congr (fun k => (if_pos rfl).trans (if_pos rfl)) (Ev.bind works_ev (Ev.now _)))
  | ok U =>
    have hg := (scan_good hb h).2
    have := weight_length U
    exact Ev.bind (same_ev U (by omega)) (Ev.congr (fun k => (if_pos rfl).trans (if_pos rfl)) (Ev.bind works_ev (Ev.now _)))
end Go.Proofs.Ytldmldhnhfjmlaa.Sem
