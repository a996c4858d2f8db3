/- What is written reads back, and what stands on both sides of a blank reads as its two parts. Lists alone. -/
import Derived.Test.YtldmldhnhfjmlaaSemE
namespace Go.Proofs.Ytldmldhnhfjmlaa.Sem
open Go.Proofs.Ytldmldhnhfjmlaa.Math Go.Proofs.Ytldmldhnhfjmlaa.Base
set_option linter.unusedVariables false

theorem text13 {c : Nat} (h : isText c = true) : c ≠ 13 := by
  rintro rfl
  exact absurd h (by decide)
theorem nofold {c : Nat} (r : List Nat) (h : c ≠ 13) : ¬ foldAt (c :: r) = true := by rw [foldAt_ne c r h]; decide

/-! ### Back -/
theorem quo_back (w : List Nat) : ∀ (v rest : List Nat), (∀ c ∈ w, isText c = true) → quo v (w.flatMap esc ++ 34 :: rest) = .ok (v ++ w, rest) := by
  induction w with
  | nil =>
    intro v rest h
    rw [List.flatMap_nil, List.nil_append, quo, if_neg (nofold _ (by decide)), if_neg (by decide), if_pos rfl, List.append_nil]
  | cons c w ih =>
    intro v rest h
    have ht : isText c = true := h c (by simp)
    have := ih (v ++ [c]) rest (fun x hx => h x (by simp [hx]))
    rw [List.flatMap_cons, List.append_assoc]
    unfold esc
    by_cases hx : c = 34 ∨ c = 92
    · rw [if_pos hx]
      show quo v (92 :: c :: (w.flatMap esc ++ 34 :: rest)) = _
      rw [quo, if_neg (nofold _ (by decide)), if_pos rfl, if_neg (by simp), if_pos (by simpa using ht)]
      rw [List.append_assoc] at this
      exact this
    · rw [if_neg hx, if_pos ht]
      show quo v (c :: (w.flatMap esc ++ 34 :: rest)) = _
      rw [quo, if_neg (nofold _ (text13 ht)), if_neg (by omega), if_neg (by omega), if_pos ht]
      rw [List.append_assoc] at this
      exact this
theorem span_stop (w rest : List Nat) (hw : ∀ c ∈ w, atomic c = true) (hr : ∀ c r, rest = c :: r → atomic c = false) : span (w ++ rest) = (w, rest) := by
  induction w with
  | nil =>
    cases rest with
    | nil => rfl
    | cons c r => rw [List.nil_append, span, if_neg (by rw [hr c r rfl]; decide)]
  | cons c w ih =>
    rw [List.cons_append, span, if_pos (hw c (by simp)), ih (fun x hx => hw x (by simp [hx]))]
def asG (t : Tok) : Gk := ((t.1 : Int), t.2)
theorem scan_skip (b : Bool) (l : List Nat) (p : Prop) [Decidable p] : scan ((if p then [32] else []) ++ l) = scan l := by
  split
  · rw [List.singleton_append, scan_cons, if_pos (by decide)]
  · rfl
theorem scan_atom {w rest : List Nat} (hne : w ≠ []) (hw : ∀ c ∈ w, atomic c = true) (hr : ∀ c r, rest = c :: r → atomic c = false) : scan (w ++ rest) = con (1, w) (scan rest) := by
  have hs := span_stop w rest hw hr
  cases w with
  | nil => exact absurd rfl hne
  | cons c w =>
    have ha := hw c (by simp)
    have hk := kinds c ha
    rw [List.cons_append] at hs ⊢
    rw [scan_cons, if_neg (by rw [hk.1]; decide), if_neg (nofold _ hk.2.2.2.2.1), if_neg hk.2.2.1, if_neg hk.2.2.2.1, if_neg (by rw [hk.2.1]; decide), if_pos ha, hs]
theorem scan_quoted {w rest : List Nat} (hw : ∀ c ∈ w, isText c = true) : scan (quoteL w ++ rest) = con (2, w) (scan rest) := by
  have e : quoteL w ++ rest = 34 :: (w.flatMap esc ++ 34 :: rest) := by simp [quoteL]
  rw [e, scan_cons, if_neg (by decide), if_neg (nofold _ (by decide)), if_neg (by decide), if_pos rfl, quo_back w [] rest hw]
  rfl
theorem scan_special {c : Nat} {rest : List Nat} (hs : special c = true) : scan (c :: rest) = con (3, [c]) (scan rest) := by
  have hk := kinds_special c hs
  rw [scan_cons, if_neg (by rw [hk.1]; decide), if_neg (nofold _ hk.2.2.2.2), if_neg hk.2.2.1, if_neg hk.2.2.2.1, if_pos hs]
theorem rest_head (T : List Tok) (hT : ∀ t ∈ T, Good t) : ∀ c r, printL true (T.map asG) = c :: r → atomic c = false := by
  intro c r h
  cases T with
  | nil => cases h
  | cons t T =>
    rw [List.map_cons, printL] at h
    have hg := (hT t (by simp)).2
    by_cases h3 : (asG t).1 = 3
    · have h3' : t.1 = 3 := by
        have : ((t.1 : Nat) : Int) = 3 := h3
        omega
      rw [if_neg (by simp [h3])] at h
      have : shown (asG t) = t.2 := if_neg (by rw [h3]; decide)
      rw [this] at h
      rcases hg with ⟨h1, _⟩ | ⟨h2, _⟩ | ⟨_, d, hd, hs⟩
      · omega
      · omega
      · rw [hd] at h
        have : d = c := by simpa using congrArg List.head? h
        rw [← this]
        exact (kinds_special d hs).2.1
    · rw [if_pos ⟨rfl, h3⟩] at h
      have : 32 = c := by simpa using congrArg List.head? h
      rw [← this]
      rfl
theorem scan_print (T : List Tok) : ∀ (b : Bool), (∀ t ∈ T, Good t) → scan (printL b (T.map asG)) = .ok T := by
  induction T with
  | nil => intro b _; rw [List.map_nil, printL, scan_nil]
  | cons t T ih =>
    intro b hT
    have hg := (hT t (by simp)).2
    have hT2 : ∀ t ∈ T, Good t := fun u hu => hT u (by simp [hu])
    rw [List.map_cons, printL, scan_skip b]
    obtain ⟨kd, w⟩ := t
    rcases hg with ⟨rfl, hne, hw⟩ | ⟨rfl, hw⟩ | ⟨rfl, c, rfl, hs⟩
    · rw [show shown (asG (1, w)) = w from if_neg (show ¬ ((1 : Nat) : Int) = 2 by decide), show decide ((asG (1, w)).1 ≠ 3) = true from rfl, scan_atom hne hw (rest_head T hT2), ih true hT2]
      rfl
    · rw [show shown (asG (2, w)) = quoteL w from if_pos (by rfl), scan_quoted hw, ih _ hT2]
      rfl
    · rw [show shown (asG (3, [c])) = [c] from if_neg (show ¬ ((3 : Nat) : Int) = 2 by decide), List.singleton_append, scan_special hs, ih _ hT2]
      rfl
theorem print_length (T : List Tok) : ∀ (b : Bool), (printL b (T.map asG)).length ≤ 3 * weight T := by
  induction T with
  | nil => intro b; exact Nat.zero_le _
  | cons t T ih =>
    intro b
    have h1 := shown_length (asG t)
    have h2 := ih (decide ((asG t).1 ≠ 3))
    have h3 : (if b = true ∧ (asG t).1 ≠ 3 then [32] else ([] : List Nat)).length ≤ 1 := by split <;> simp
    rw [List.map_cons, printL]
    simp only [List.length_append, weight]
    simp only [asG] at h1 h2 h3 ⊢
    omega
theorem print_bytes (G : List Gk) : ∀ (b : Bool), (∀ g ∈ G, Bytes g.2) → Bytes (printL b G) := by
  induction G with
  | nil => intro b _ x hx; cases hx
  | cons g G ih =>
    intro b h
    rw [printL]
    refine Bytes.append ?_ (Bytes.append (shown_bytes (h g (by simp))) (ih _ fun x hx => h x (by simp [hx])))
    intro x hx
    split at hx
    · rw [List.mem_singleton.1 hx]; decide
    · cases hx

/-! ### Parts -/
theorem fold_append {l : List Nat} (m : List Nat) (h : foldAt l = true) : foldAt (l ++ m) = true := by
  match l, h with
  | _ :: _ :: _ :: _, h => exact h
theorem fold_rest {c : Nat} {r : List Nat} (m : List Nat) (h : foldAt (c :: r) = true) : (r ++ m).drop 1 = r.drop 1 ++ m := by
  match r, h with
  | _ :: _ :: _, _ => rfl
theorem comm_ext (m : List Nat) : ∀ (n d : Nat) (l r : List Nat), l.length ≤ n → comm d l = .ok r → comm d (l ++ m) = .ok (r ++ m) := by
  intro n
  induction n with
  | zero => intro d l r hn h; rw [List.eq_nil_of_length_eq_zero (by omega : l.length = 0), comm] at h; cases h
  | succ n ih =>
    intro d l r hn h
    cases l with
    | nil => rw [comm] at h; cases h
    | cons c l =>
      simp only [List.length_cons] at hn
      have hl : (l.drop 1).length ≤ l.length := by rw [List.length_drop]; omega
      rw [comm] at h
      rw [List.cons_append, comm]
      by_cases hf : foldAt (c :: l) = true
      · rw [if_pos hf] at h
        rw [if_pos (show foldAt (c :: (l ++ m)) = true from fold_append m hf), fold_rest m hf]
        exact ih _ _ _ (by omega) h
      rw [if_neg hf] at h
      have h13 : c ≠ 13 := by
        rintro rfl
        rw [if_neg (by decide), if_neg (by decide), if_neg (by decide), if_neg (by decide)] at h
        cases h
      rw [if_neg (nofold _ h13)]
      by_cases h92 : c = 92
      · rw [if_pos h92] at h ⊢
        cases l with
        | nil => rw [if_pos rfl] at h; cases h
        | cons y l =>
          rw [if_neg (by simp)] at h
          rw [if_neg (by simp)]
          simp only [List.headD_cons, List.cons_append, List.drop_succ_cons, List.drop_zero] at h hl hn ⊢
          by_cases ht : isText y = true
          · rw [if_pos ht] at h ⊢
            exact ih _ _ _ (by simp only [List.length_cons] at hn; omega) h
          · rw [if_neg ht] at h; cases h
      rw [if_neg h92] at h ⊢
      by_cases h40 : c = 40
      · rw [if_pos h40] at h ⊢
        by_cases h16 : d = 16
        · rw [if_pos h16] at h; cases h
        · rw [if_neg h16] at h ⊢
          exact ih _ _ _ (by omega) h
      rw [if_neg h40] at h ⊢
      by_cases h41 : c = 41
      · rw [if_pos h41] at h ⊢
        by_cases h1 : d = 1
        · rw [if_pos h1] at h ⊢; cases h; rfl
        · rw [if_neg h1] at h ⊢
          exact ih _ _ _ (by omega) h
      rw [if_neg h41] at h ⊢
      by_cases ht : isText c = true
      · rw [if_pos ht] at h ⊢
        exact ih _ _ _ (by omega) h
      · rw [if_neg ht] at h; cases h
theorem quo_ext (m : List Nat) : ∀ (n : Nat) (w l : List Nat) (x : List Nat × List Nat), l.length ≤ n → quo w l = .ok x → quo w (l ++ m) = .ok (x.1, x.2 ++ m) := by
  intro n
  induction n with
  | zero => intro d l r hn h; rw [List.eq_nil_of_length_eq_zero (by omega : l.length = 0), quo] at h; cases h
  | succ n ih =>
    intro d l r hn h
    cases l with
    | nil => rw [quo] at h; cases h
    | cons c l =>
      simp only [List.length_cons] at hn
      have hl : (l.drop 1).length ≤ l.length := by rw [List.length_drop]; omega
      rw [quo] at h
      rw [List.cons_append, quo]
      by_cases hf : foldAt (c :: l) = true
      · rw [if_pos hf] at h
        rw [if_pos (show foldAt (c :: (l ++ m)) = true from fold_append m hf), fold_rest m hf]
        exact ih _ _ _ (by omega) h
      rw [if_neg hf] at h
      have h13 : c ≠ 13 := by
        rintro rfl
        rw [if_neg (by decide), if_neg (by decide), if_neg (by decide)] at h
        cases h
      rw [if_neg (nofold _ h13)]
      by_cases h92 : c = 92
      · rw [if_pos h92] at h ⊢
        cases l with
        | nil => rw [if_pos rfl] at h; cases h
        | cons y l =>
          rw [if_neg (by simp)] at h
          rw [if_neg (by simp)]
          simp only [List.headD_cons, List.cons_append, List.drop_succ_cons, List.drop_zero] at h hl hn ⊢
          by_cases ht : isText y = true
          · rw [if_pos ht] at h ⊢
            exact ih _ _ _ (by simp only [List.length_cons] at hn; omega) h
          · rw [if_neg ht] at h; cases h
      rw [if_neg h92] at h ⊢
      by_cases h34 : c = 34
      · rw [if_pos h34] at h ⊢; cases h; rfl
      rw [if_neg h34] at h ⊢
      by_cases ht : isText c = true
      · rw [if_pos ht] at h ⊢
        exact ih _ _ _ (by omega) h
      · rw [if_neg ht] at h; cases h
theorem span_ext (b : Nat) (m : List Nat) (hb : atomic b = false) (l : List Nat) : span (l ++ b :: m) = ((span l).1, (span l).2 ++ b :: m) := by
  induction l with
  | nil =>
    have : span (b :: m) = ([], b :: m) := by rw [span, if_neg (by rw [hb]; decide)]
    exact this
  | cons c l ih =>
    rw [List.cons_append, span, span]
    by_cases ha : atomic c = true
    · rw [if_pos ha, if_pos ha, ih]
    · rw [if_neg ha, if_neg ha]; rfl
theorem scan_ext (b : Nat) (m : List Nat) (hb : white b = true) : ∀ (n : Nat) (l : List Nat) (A : List Tok), l.length ≤ n → scan l = .ok A → scan (l ++ b :: m) = (scan m).map (A ++ ·) := by
  have start : scan ([] ++ b :: m) = (scan m).map (([] : List Tok) ++ ·) := by
    rw [List.nil_append, scan_cons, if_pos hb]
    cases scan m <;> rfl
  intro n
  induction n with
  | zero =>
    intro l A hn h
    obtain rfl := List.eq_nil_of_length_eq_zero (by omega : l.length = 0)
    rw [scan_nil] at h
    cases h
    exact start
  | succ n ih =>
    intro l A hn h
    cases l with
    | nil =>
      rw [scan_nil] at h
      cases h
      exact start
    | cons c r =>
      have hdr : (r.drop 1).length ≤ r.length := by rw [List.length_drop]; omega
      simp only [List.length_cons] at hn
      have token : ∀ (t : Tok) (v : List Nat), v.length ≤ n → con t (scan v) = .ok A → con t (scan (v ++ b :: m)) = (scan m).map (A ++ ·) := by
        intro t v hv h
        cases hsv : scan v with
        | error e2 => rw [hsv] at h; cases h
        | ok V =>
          rw [hsv] at h
          cases h
          rw [ih v V hv hsv]
          cases scan m <;> rfl
      rw [scan_cons] at h
      rw [List.cons_append, scan_cons]
      by_cases hw : white c = true
      · rw [if_pos hw] at h ⊢
        exact ih _ _ (by omega) h
      rw [if_neg hw] at h ⊢
      by_cases hf : foldAt (c :: r) = true
      · rw [if_pos hf] at h
        rw [if_pos (show foldAt (c :: (r ++ b :: m)) = true from fold_append _ hf), fold_rest _ hf]
        exact ih _ _ (by omega) h
      rw [if_neg hf] at h
      have h13 : c ≠ 13 := by
        rintro rfl
        rw [if_neg (by decide), if_neg (by decide), if_neg (by decide), if_neg (by decide)] at h
        cases h
      rw [if_neg (nofold _ h13)]
      by_cases h40 : c = 40
      · rw [if_pos h40] at h ⊢
        rcases comm_code 1 r with ⟨r2, hc⟩ | ⟨e, hc, he⟩
        · rw [hc] at h
          have hs := comm_shorter 1 r r2 hc
          rw [comm_ext (b :: m) _ 1 r r2 (Nat.le_refl _) hc]
          exact ih _ _ (by omega) h
        · rw [hc] at h; cases h
      rw [if_neg h40] at h ⊢
      by_cases h34 : c = 34
      · rw [if_pos h34] at h ⊢
        rcases quo_code [] r with ⟨x, hc⟩ | ⟨e, hc, he⟩
        · rw [hc] at h
          have hs := quo_size [] r x hc
          simp only [List.length_nil] at hs
          rw [quo_ext (b :: m) _ [] r x (Nat.le_refl _) hc]
          exact token _ _ (by omega) h
        · rw [hc] at h; cases h
      rw [if_neg h34] at h ⊢
      by_cases hs : special c = true
      · rw [if_pos hs] at h ⊢
        exact token _ _ (by omega) h
      rw [if_neg hs] at h ⊢
      by_cases ha : atomic c = true
      · rw [if_pos ha] at h ⊢
        have hsh := span_shorter c r ha
        simp only [List.length_cons] at hsh
        have he := span_ext b m (kinds_white b hb).1 (c :: r)
        rw [List.cons_append] at he
        rw [he]
        exact token _ _ (by omega) h
      · rw [if_neg ha] at h; cases h
end Go.Proofs.Ytldmldhnhfjmlaa.Sem
