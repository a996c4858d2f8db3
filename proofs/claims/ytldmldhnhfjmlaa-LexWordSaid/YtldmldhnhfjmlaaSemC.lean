/- The reference's scanner comes to the document's. Condition: a text of at most a hundred thousand bytes. -/
import Derived.Test.YtldmldhnhfjmlaaSemB
import Derived.Test.YtldmldhnhfjmlaaPLx7
namespace Go.Proofs.Ytldmldhnhfjmlaa.Sem
open Go.RowKit Go.Proofs.Ytldmldhnhfjmlaa.PL Go.Proofs.YtldmldhnhfjmlaaW.PrintWords Go.Proofs.YtldmldhnhfjmlaaW.PrintLast Go.Proofs.YtldmldhnhfjmlaaW.PrintMore Go.Proofs.Ytldmldhnhfjmlaa.Math Go.Proofs.Ytldmldhnhfjmlaa.Base
set_option linter.unusedVariables false
set_option linter.unusedSectionVars false

theorem rtext_eq : ∀ c : Nat, c < 256 → bulletinref12_Text.f (c : Int) = some (isText c) := by decide +kernel
set_option maxRecDepth 100000 in
theorem among_tab : ∀ c : Nat, c < 256 → bulletinref12_among.f 20 (c : Int) (⟨#[60, 62, 58, 59, 64, 44, 46]⟩ : ByteArray) = some (special c) := by decide +kernel
set_option maxRecDepth 100000 in
theorem ratomic_tab : ∀ c : Nat, c < 256 → bulletinref12_atomic.f 20 (c : Int) = some (atomic c) := by decide +kernel
theorem among_ev {c : Nat} (h : c < 256) : Ev (fun k => bulletinref12_among.f k (c : Int) (⟨#[60, 62, 58, 59, 64, 44, 46]⟩ : ByteArray)) (special c) := Ev.of (bulletinref12_among.mono _ _) (among_tab c h)
theorem ratomic_ev {c : Nat} (h : c < 256) : Ev (fun k => bulletinref12_atomic.f k (c : Int)) (atomic c) := Ev.of (bulletinref12_atomic.mono _) (ratomic_tab c h)

theorem late {α : Type} {g f : Nat → Option α} {r : α} (h : ∃ K, ∀ k, K ≤ k → g (k + 1) = f k) (e : Ev f r) : Ev g r := by
  obtain ⟨K, hK⟩ := h
  obtain ⟨L, hL⟩ := e
  refine ⟨K + L + 1, fun k hk => ?_⟩
  obtain ⟨m, rfl⟩ : ∃ m, k = m + 1 := ⟨k - 1, by omega⟩
  rw [hK m (by omega), hL m (by omega)]
theorem white_iff (c : Nat) : white c = true ↔ c = 32 ∨ c = 9 := by unfold white; simp
theorem foldAt_drop (l : List Nat) (i : Nat) : foldAt (l.drop i) = (decide (i + 2 < l.length) && (l.getD i 0 == 13 && l.getD (i + 1) 0 == 10 && white (l.getD (i + 2) 0))) := by
  rcases Nat.lt_or_ge (i + 2) l.length with h | h
  · rw [drop_cons (i := i) (by omega), drop_cons (i := i + 1) (by omega), drop_cons (i := i + 2) (by omega), decide_eq_true h, Bool.true_and]
    rfl
  · rw [decide_eq_false (by omega), Bool.false_and]
    have hlen : (l.drop i).length ≤ 2 := by rw [List.length_drop]; omega
    match l.drop i, hlen with
    | [], _ => rfl
    | [_], _ => rfl
    | [_, _], _ => rfl

def tok37 (t : Tok) : S37 := ⟨(t.1 : Int), str t.2⟩
def resT (T : List Tok) (r : Except Nat (List Tok)) : List S37 × Int := match r with
  | .ok U => ((T ++ U).map tok37, 0)
  | .error e => ([], (e : Int))
theorem resT_con (T : List Tok) (t : Tok) (r : Except Nat (List Tok)) : resT (T ++ [t]) r = resT T (con t r) := by
  cases r with
  | ok U => simp [resT, con, Except.map]
  | error e => rfl

section
variable {l : List Nat} (hb : Bytes l) (hl : l.length ≤ 100000)
include hb hl

theorem r_open {i : Nat} (hi : i < l.length) (X : List S37) (w : ByteArray) (x6 d : Int) (h1 : x6 ≠ 1) {r : List S37 × Int}
    (h : Ev (fun k => bulletinref12_Scan.j2 k (str l) X w x6 d false (i : Int) ((l.getD i 0 : Nat) : Int)) r) :
    Ev (fun k => bulletinref12_Scan.l0 k (str l) X w x6 d false (i : Int)) r := by
  refine Ev.step (f := fun k => bulletinref12_Scan.j1 k (str l) X w x6 d false (i : Int) ((l.getD i 0 : Nat) : Int) false) (fun k => ?_) (Ev.step (fun k => ?_) h)
  · conv => lhs; unfold bulletinref12_Scan.l0
    rw [str_size, bt_str hb i, if_pos (by omega), if_pos (by omega), if_neg (by decide), if_neg h1]
  · conv => lhs; unfold bulletinref12_Scan.j1
    rw [if_neg (by decide)]
theorem r_fold {i : Nat} (hi : i < l.length) (X : List S37) (w : ByteArray) (x6 d : Int) {r : List S37 × Int}
    (h : Ev (fun k => if foldAt (l.drop i) = true then bulletinref12_Scan.l0 k (str l) X w x6 d false ((i + 2 : Nat) : Int) else bulletinref12_Scan.j4 k (str l) X w x6 d false (i : Int) ((l.getD i 0 : Nat) : Int) (decide (x6 = 2 ∨ x6 = 3))) r) :
    Ev (fun k => bulletinref12_Scan.j2 k (str l) X w x6 d false (i : Int) ((l.getD i 0 : Nat) : Int)) r := by
  refine Ev.step (f := fun k => bulletinref12_Scan.j3 k (str l) X w x6 d false (i : Int) ((l.getD i 0 : Nat) : Int) (foldAt (l.drop i))) (fun k => ?_) (Ev.step (fun k => ?_) h)
  · conv => lhs; unfold bulletinref12_Scan.j2
    rw [foldAt_drop, w64 (x := (i : Int) + 2) (by omega) (by omega), w64 (x := (i : Int) + 1) (by omega) (by omega), show ((i : Int) + 2) = ((i + 2 : Nat) : Int) by omega, show ((i : Int) + 1) = ((i + 1 : Nat) : Int) by omega, bt_str hb (i + 1), bt_str hb (i + 2), str_size]
    by_cases h13 : l.getD i 0 = 13
    · rw [h13, if_pos (show ((13 : Nat) : Int) = 13 from rfl)]
      by_cases h2 : i + 2 < l.length
      · rw [if_pos (by omega), if_pos (by omega), if_pos (by omega)]
        by_cases h10 : l.getD (i + 1) 0 = 10
        · rw [if_pos (by omega), if_pos (by omega), h10, decide_eq_true h2]
          by_cases h32 : l.getD (i + 2) 0 = 32
          · rw [if_pos (by omega), h32]
            rfl
          · rw [if_neg (by omega)]
            have : (((l.getD (i + 2) 0 : Nat) : Int) == 9) = (l.getD (i + 2) 0 == 9) := by
              rw [Bool.eq_iff_iff, beq_iff_eq, beq_iff_eq]; omega
            rw [this, show white (l.getD (i + 2) 0) = (l.getD (i + 2) 0 == 9) from by unfold white; rw [beq_eq_false_iff_ne.2 h32]; rfl]
            rfl
        · rw [if_neg (by omega), beq_eq_false_iff_ne.2 h10]
          simp
      · rw [if_neg (by omega), decide_eq_false h2]
        rfl
    · rw [if_neg (by omega), beq_eq_false_iff_ne.2 h13]
      simp
  · conv => lhs; unfold bulletinref12_Scan.j3
    rw [w64 (x := (i : Int) + 1) (by omega) (by omega), w64 (x := (i : Int) + 1 + 1) (by omega) (by omega), show ((i : Int) + 1 + 1) = ((i + 2 : Nat) : Int) by omega]
    by_cases hf : foldAt (l.drop i) = true
    · rw [if_pos hf, if_pos hf]
    · rw [if_neg hf, if_neg hf]
      by_cases h2 : x6 = 2
      · rw [if_pos h2, decide_eq_true (.inl h2)]
      · rw [if_neg h2]
        by_cases h3 : x6 = 3
        · rw [decide_eq_true (.inr h3), beq_iff_eq.2 h3]
        · rw [decide_eq_false (by omega), beq_eq_false_iff_ne.2 h3]
/-- Past the loop's end. -/
theorem r_end {i : Nat} (hi : l.length ≤ i) (X : List S37) (w : ByteArray) (x6 d : Int) (x8 : Bool) (hX : X.length < 200000) :
    Ev (fun k => bulletinref12_Scan.l0 k (str l) X w x6 d x8 (i : Int)) (if x6 ≥ 2 then ([], 9) else if x6 = 1 then (X ++ [⟨1, w⟩], 0) else (X, 0)) := by
  refine Ev.step (f := fun _ => some _) (fun k => ?_) (Ev.now _)
  conv => lhs; unfold bulletinref12_Scan.l0
  rw [str_size, if_neg (by omega)]
  by_cases h2 : x6 ≥ 2
  · rw [if_pos h2, if_pos h2]
  · rw [if_neg h2, if_neg h2]
    by_cases h1 : x6 = 1
    · rw [if_pos h1, if_pos h1, if_pos (by omega)]
    · rw [if_neg h1, if_neg h1]
/-- What stands behind a backslash. -/
theorem r_behind {i : Nat} (X : List S37) (w : List Nat) (x6 d : Int) (h6 : x6 = 2 ∨ x6 = 3) (hX : X.length < 200000) (hw : w.length ≤ 200000) {r : List S37 × Int}
    (h : Ev (fun k => if l.drop i = [] then some ([], 9) else if isText ((l.drop i).headD 0) = true then bulletinref12_Scan.l0 k (str l) X (if x6 = 2 then str (w ++ [l.getD i 0]) else str w) x6 d false ((i + 1 : Nat) : Int) else some ([], 3)) r) :
    Ev (fun k => bulletinref12_Scan.l0 k (str l) X (str w) x6 d true (i : Int)) r := by
  rcases Nat.lt_or_ge i l.length with hi | hi
  · refine Ev.step (fun k => ?_) h
    have e1 : (str l).extract ((i : Int)).toNat (((i + 1 : Nat) : Int)).toNat = str [l.getD i 0] := extract_one hb i hi
    conv => lhs; unfold bulletinref12_Scan.l0
    rw [w64 (x := (i : Int) + 1) (by omega) (by omega), show ((i : Int) + 1) = ((i + 1 : Nat) : Int) by omega, e1, bt_str hb i, rtext_eq _ (getD_byte hb i), str_size, str_size, str_size]
    simp only [Option.bind_some, if_true]
    rw [if_pos (by omega), if_pos (by omega), if_neg (c := l.drop i = ([] : List Nat)) (by rw [List.drop_eq_nil_iff]; omega), drop_head]
    by_cases ht : isText (l.getD i 0) = true
    · rw [if_pos ht, if_pos ht]
      by_cases h2 : x6 = 2
      · rw [if_pos h2, if_pos h2, if_pos (by omega), if_pos (by omega), if_pos (by simp only [List.length_singleton]; omega), str_append]
      · rw [if_neg h2, if_neg h2]
    · rw [if_neg ht, if_neg ht]
  · have := r_end hb hl hi X (str w) x6 d true hX
    rw [if_pos (by omega)] at this
    obtain ⟨K, hK⟩ := h
    have e : (if l.drop i = [] then some (([] : List S37), (9 : Int)) else _) = some r := hK K (Nat.le_refl _)
    rw [if_pos (List.drop_eq_nil_iff.2 hi)] at e
    obtain rfl := Option.some.inj e
    exact this
end

def afterQ (r : Except Nat (List Nat × List Nat)) : Except Nat (List Tok) := match r with
  | .ok x => con (2, x.1) (scan x.2)
  | .error e => .error e
def afterC (r : Except Nat (List Nat)) : Except Nat (List Tok) := match r with
  | .ok r2 => scan r2
  | .error e => .error e
/-- The reference's loop at one index: outside, in an atom, in a quoted text, in a comment. -/
def RefAt (l : List Nat) (i : Nat) : Prop := ∀ (T : List Tok) (d : Int), T.length ≤ i →
  Ev (fun k => bulletinref12_Scan.l0 k (str l) (T.map tok37) (⟨#[]⟩ : ByteArray) 0 d false (i : Int)) (resT T (scan (l.drop i)))
  ∧ (∀ w : List Nat, w ≠ [] → w.length + T.length ≤ i → Ev (fun k => bulletinref12_Scan.l0 k (str l) (T.map tok37) (str w) 1 d false (i : Int)) (resT T (con (1, w ++ (span (l.drop i)).1) (scan (span (l.drop i)).2))))
  ∧ (∀ w : List Nat, w.length ≤ i → Ev (fun k => bulletinref12_Scan.l0 k (str l) (T.map tok37) (str w) 2 d false (i : Int)) (resT T (afterQ (quo w (l.drop i)))))
  ∧ (∀ e : Nat, 1 ≤ e → e ≤ 16 → Ev (fun k => bulletinref12_Scan.l0 k (str l) (T.map tok37) (⟨#[]⟩ : ByteArray) 3 (e : Int) false (i : Int)) (resT T (afterC (comm e (l.drop i)))))

section
variable {l : List Nat} (hb : Bytes l) (hl : l.length ≤ 100000)
include hb hl
theorem ref_stop {i : Nat} (hi : l.length ≤ i) (hi2 : i ≤ l.length) : RefAt l i := by
  intro T d hT
  have hX : (T.map tok37).length < 200000 := by rw [List.length_map]; omega
  rw [List.drop_of_length_le hi]
  refine ⟨?_, ?_, ?_, ?_⟩
  · have := r_end hb hl hi (T.map tok37) (⟨#[]⟩ : ByteArray) 0 d false hX
    rw [if_neg (by decide), if_neg (by decide)] at this
    rw [scan_nil]
    simpa [resT] using this
  · intro w hw hwl
    have := r_end hb hl hi (T.map tok37) (str w) 1 d false hX
    rw [if_neg (by decide), if_pos rfl] at this
    rw [span, scan_nil]
    simpa [resT, con, Except.map, tok37] using this
  · intro w hw
    have := r_end hb hl hi (T.map tok37) (str w) 2 d false hX
    rw [if_pos (by decide)] at this
    rw [quo]
    exact this
  · intro e h1 h16
    have := r_end hb hl hi (T.map tok37) (⟨#[]⟩ : ByteArray) 3 (e : Int) false hX
    rw [if_pos (by decide)] at this
    rw [comm]
    exact this
theorem ref_step {i : Nat} (hi : i < l.length) (n1 : RefAt l (i + 1)) (n2 : i + 2 ≤ l.length → RefAt l (i + 2)) : RefAt l i := by
  have hc := getD_byte hb i
  have e1 : (str l).extract ((i : Int)).toNat (((i + 1 : Nat) : Int)).toNat = str [l.getD i 0] := extract_one hb i hi
  have hd : (l.drop (i + 1)).drop 1 = l.drop (i + 2) := by rw [List.drop_drop]
  have fl : foldAt (l.drop i) = true → i + 2 ≤ l.length := by
    intro h
    rw [foldAt_drop, Bool.and_eq_true, decide_eq_true_eq] at h
    omega
  have wi : wrap64 ((i : Int) + 1) = ((i + 1 : Nat) : Int) := by rw [w64 (by omega) (by omega)]; omega
  have m1 := among_ev hc
  have a1 := ratomic_ev hc
  have t1 := rtext_eq _ hc
  -- outside, behind the first look
  have body0 : ∀ (T : List Tok) (d : Int), T.length ≤ i → Ev (fun k => bulletinref12_Scan.j2 k (str l) (T.map tok37) (⟨#[]⟩ : ByteArray) 0 d false (i : Int) ((l.getD i 0 : Nat) : Int)) (resT T (scan (l.drop i))) := by
    intro T d hT
    have hX : (T.map tok37).length < 5864062014805 := by rw [List.length_map]; omega
    refine r_fold hb hl hi _ _ 0 d ?_
    rw [drop_cons hi, scan_cons, hd, ← drop_cons hi]
    by_cases hf : foldAt (l.drop i) = true
    · have hw : white (l.getD i 0) = false := by
        rw [foldAt_drop] at hf
        simp only [Bool.and_eq_true, beq_iff_eq] at hf
        rw [hf.2.1.1]; rfl
      rw [if_neg (by rw [hw]; decide), if_pos hf]
      exact Ev.congr (fun k => if_pos hf) (n2 (fl hf) T d (by omega)).1
    rw [if_neg (c := foldAt (l.drop i) = true) hf]
    refine Ev.congr (fun k => if_neg hf) ?_
    refine Ev.step (f := fun k => bulletinref12_Scan.j5 k (str l) (T.map tok37) (⟨#[]⟩ : ByteArray) 0 d false (i : Int) ((l.getD i 0 : Nat) : Int)) (fun k => ?_) ?_
    · conv => lhs; unfold bulletinref12_Scan.j4
      rw [if_neg (by decide)]
    have start : ∀ k, bulletinref12_Scan.j5 (k + 1) (str l) (T.map tok37) (⟨#[]⟩ : ByteArray) 0 d false (i : Int) ((l.getD i 0 : Nat) : Int) = ((bulletinref12_atomic.f k ((l.getD i 0 : Nat) : Int)).bind fun t181 => (if t181 = true then bulletinref12_Scan.l0 k (str l) (T.map tok37) (str [l.getD i 0]) 1 d false ((i + 1 : Nat) : Int) else (if ((l.getD i 0 : Nat) : Int) = 34 then (bulletinref12_Scan.l0 k (str l) (T.map tok37) (⟨#[]⟩ : ByteArray) 2 d false ((i + 1 : Nat) : Int)) else (if ((l.getD i 0 : Nat) : Int) = 40 then (bulletinref12_Scan.l0 k (str l) (T.map tok37) (⟨#[]⟩ : ByteArray) 3 1 false ((i + 1 : Nat) : Int)) else ((bulletinref12_among.f k ((l.getD i 0 : Nat) : Int) (⟨#[60, 62, 58, 59, 64, 44, 46]⟩ : ByteArray)).bind fun t182 => (if t182 = true then (bulletinref12_Scan.l0 k (str l) (T.map tok37 ++ [(⟨3, str [l.getD i 0]⟩ : S37)]) (⟨#[]⟩ : ByteArray) 0 d false ((i + 1 : Nat) : Int)) else (if ((l.getD i 0 : Nat) : Int) = 32 then (bulletinref12_Scan.l0 k (str l) (T.map tok37) (⟨#[]⟩ : ByteArray) 0 d false ((i + 1 : Nat) : Int)) else (if ((l.getD i 0 : Nat) : Int) = 9 then (bulletinref12_Scan.l0 k (str l) (T.map tok37) (⟨#[]⟩ : ByteArray) 0 d false ((i + 1 : Nat) : Int)) else (some (([] : List (S37)), 3)))))))))) := by
      intro k
      have en : (⟨#[]⟩ : ByteArray) ++ str [l.getD i 0] = str [l.getD i 0] := by rw [← str_nil, ← str_append]; rfl
      conv => lhs; unfold bulletinref12_Scan.j5
      rw [wi, e1, en, str_size, str_size, if_neg (c := (0 : Int) = 2) (by decide), if_neg (c := (0 : Int) = 3) (by decide)]
      rw [if_pos (c := (0 : Int) ≤ (i : Int)) (by omega), if_pos (c := (i : Int) ≤ ((i + 1 : Nat) : Int)) (by omega), if_pos (c := ((i + 1 : Nat) : Int) ≤ (l.length : Int)) (by omega), if_pos hX]
      rw [if_pos (c := (0 : Int) ≤ (i : Int)) (by omega), if_pos (c := (i : Int) ≤ ((i + 1 : Nat) : Int)) (by omega), if_pos (c := ((i + 1 : Nat) : Int) ≤ (l.length : Int)) (by omega)]
      rw [if_pos (c := ByteArray.size ⟨#[]⟩ + [l.getD i 0].length ≤ 9223372036854775807) (Nat.le_trans (Nat.le_of_eq (show ByteArray.size ⟨#[]⟩ + [l.getD i 0].length = 1 from rfl)) (by decide))]
    refine Ev.step start (Ev.bind a1 ?_)
    by_cases ha : atomic (l.getD i 0) = true
    · have hk := kinds _ ha
      rw [if_neg (by rw [hk.1]; decide), if_neg hk.2.2.1, if_neg hk.2.2.2.1, if_neg (by rw [hk.2.1]; decide), if_pos ha, drop_cons hi, span, if_pos ha]
      exact Ev.congr (fun k => if_pos ha) ((n1 T d (by omega)).2.1 [l.getD i 0] (by simp) (by simp; omega))
    refine Ev.congr (fun k => if_neg ha) ?_
    by_cases h34 : l.getD i 0 = 34
    · have hw : white (l.getD i 0) = false := by rw [h34]; rfl
      rw [if_neg (by rw [hw]; decide), if_neg (by omega), if_pos h34]
      exact Ev.congr (fun k => if_pos (by omega)) ((n1 T d (by omega)).2.2.1 [] (by simp))
    refine Ev.congr (fun k => if_neg (by omega)) ?_
    by_cases h40 : l.getD i 0 = 40
    · have hw : white (l.getD i 0) = false := by rw [h40]; rfl
      rw [if_neg (by rw [hw]; decide), if_pos h40]
      exact Ev.congr (fun k => if_pos (by omega)) ((n1 T d (by omega)).2.2.2 1 (by omega) (by omega))
    refine Ev.congr (fun k => if_neg (by omega)) (Ev.bind m1 ?_)
    by_cases hs : special (l.getD i 0) = true
    · have hk := kinds_special _ hs
      rw [if_neg (by rw [hk.1]; decide), if_neg h40, if_neg h34, if_pos hs, ← resT_con]
      have := (n1 (T ++ [(3, [l.getD i 0])]) d (by simp; omega)).1
      rw [List.map_append] at this
      exact Ev.congr (fun k => if_pos hs) this
    refine Ev.congr (fun k => if_neg hs) ?_
    by_cases hw : white (l.getD i 0) = true
    · rw [if_pos hw]
      by_cases h32 : l.getD i 0 = 32
      · exact Ev.congr (fun k => if_pos (by omega)) (n1 T d (by omega)).1
      · have h9 : l.getD i 0 = 9 := ((white_iff _).1 hw).resolve_left h32
        exact Ev.congr (fun k => (if_neg (by omega)).trans (if_pos (by omega))) (n1 T d (by omega)).1
    · rw [if_neg hw, if_neg h40, if_neg h34, if_neg hs, if_neg ha]
      have : ¬ (l.getD i 0 = 32 ∨ l.getD i 0 = 9) := mt (white_iff _).2 hw
      exact Ev.congr (fun k => (if_neg (by omega)).trans (if_neg (by omega))) (Ev.now _)
  intro T d hT
  have hX : (T.map tok37).length < 5864062014805 := by rw [List.length_map]; omega
  have hX2 : (T.map tok37).length < 200000 := by rw [List.length_map]; omega
  refine ⟨r_open hb hl hi _ _ 0 d (by decide) (body0 T d hT), ?_, ?_, ?_⟩
  · -- in an atom
    intro w hw hwl
    have hw1 : 1 ≤ w.length := List.length_pos_iff.2 hw
    refine Ev.step (f := fun k => (bulletinref12_atomic.f k ((l.getD i 0 : Nat) : Int)).bind fun t => bulletinref12_Scan.j1 k (str l) (T.map tok37) (str w) 1 d false (i : Int) ((l.getD i 0 : Nat) : Int) (!t)) (fun k => ?_) (Ev.bind a1 ?_)
    · conv => lhs; unfold bulletinref12_Scan.l0
      rw [str_size, bt_str hb i, if_pos (by omega), if_pos (by omega), if_neg (by decide), if_pos rfl]
    by_cases ha : atomic (l.getD i 0) = true
    · have hk := kinds _ ha
      rw [ha]
      refine Ev.step (f := fun k => bulletinref12_Scan.j2 k (str l) (T.map tok37) (str w) 1 d false (i : Int) ((l.getD i 0 : Nat) : Int)) (fun k => ?_) ?_
      · conv => lhs; unfold bulletinref12_Scan.j1
        rw [if_neg (by decide)]
      refine r_fold hb hl hi _ _ 1 d ?_
      have hf : ¬ foldAt (l.drop i) = true := by
        rw [drop_cons hi, foldAt_ne _ _ hk.2.2.2.2.1]; decide
      refine Ev.congr (fun k => if_neg hf) ?_
      refine Ev.step (f := fun k => bulletinref12_Scan.j5 k (str l) (T.map tok37) (str w) 1 d false (i : Int) ((l.getD i 0 : Nat) : Int)) (fun k => ?_) ?_
      · conv => lhs; unfold bulletinref12_Scan.j4
        rw [if_neg (by decide)]
      obtain ⟨K, hK⟩ := a1
      refine late (f := fun k => bulletinref12_Scan.l0 k (str l) (T.map tok37) (str (w ++ [l.getD i 0])) 1 d false ((i + 1 : Nat) : Int)) ⟨K, fun k hk2 => ?_⟩ ?_
      · have e : bulletinref12_atomic.f k ((l.getD i 0 : Nat) : Int) = some (atomic (l.getD i 0)) := hK k hk2
        conv => lhs; unfold bulletinref12_Scan.j5
        rw [e, ha, wi, e1, str_size, str_size, str_size, if_neg (c := (1 : Int) = 2) (by decide), if_neg (c := (1 : Int) = 3) (by decide)]
        simp only [Option.bind_some, if_true]
        rw [if_pos (c := (0 : Int) ≤ (i : Int)) (by omega), if_pos (c := (i : Int) ≤ ((i + 1 : Nat) : Int)) (by omega), if_pos (c := ((i + 1 : Nat) : Int) ≤ (l.length : Int)) (by omega)]
        rw [if_pos (c := w.length + [l.getD i 0].length ≤ 9223372036854775807) (by simp only [List.length_singleton]; omega), ← str_append]
      rw [drop_cons hi, span, if_pos ha]
      have := (n1 T d (by omega)).2.1 (w ++ [l.getD i 0]) (by simp) (by simp; omega)
      rw [List.append_assoc] at this
      exact this
    · rw [show (!(atomic (l.getD i 0))) = true by simpa using ha]
      refine Ev.step (f := fun k => bulletinref12_Scan.j2 k (str l) (T.map tok37 ++ [(⟨1, str w⟩ : S37)]) (⟨#[]⟩ : ByteArray) 0 d false (i : Int) ((l.getD i 0 : Nat) : Int)) (fun k => ?_) ?_
      · conv => lhs; unfold bulletinref12_Scan.j1
        rw [if_pos rfl, if_pos hX]
      have := body0 (T ++ [(1, w)]) d (by simp; omega)
      rw [List.map_append, resT_con] at this
      have es : span (l.drop i) = ([], l.drop i) := by
        rw [drop_cons hi, span, if_neg ha]
      rw [es, List.append_nil]
      exact this
  · -- in a quoted text
    intro w hw
    refine r_open hb hl hi _ _ 2 d (by decide) (r_fold hb hl hi _ _ 2 d ?_)
    rw [drop_cons hi, quo, hd, ← drop_cons hi]
    by_cases hf : foldAt (l.drop i) = true
    · rw [if_pos hf]
      exact Ev.congr (fun k => if_pos hf) ((n2 (fl hf) T d (by omega)).2.2.1 w (by omega))
    rw [if_neg (c := foldAt (l.drop i) = true) hf]
    refine Ev.congr (fun k => if_neg hf) ?_
    refine Ev.step (f := fun k => if ((l.getD i 0 : Nat) : Int) = 92 then bulletinref12_Scan.l0 k (str l) (T.map tok37) (str w) 2 d true ((i + 1 : Nat) : Int) else if isText (l.getD i 0) = true then bulletinref12_Scan.j5 k (str l) (T.map tok37) (str w) 2 d false (i : Int) ((l.getD i 0 : Nat) : Int) else some ([], 3)) (fun k => ?_) ?_
    · conv => lhs; unfold bulletinref12_Scan.j4
      rw [if_pos (by decide), wi, t1]
      rfl
    by_cases h92 : l.getD i 0 = 92
    · rw [if_pos h92]
      refine Ev.congr (fun k => if_pos (by omega)) (r_behind hb hl _ _ 2 d (.inl rfl) hX2 (by omega) ?_)
      by_cases he : l.drop (i + 1) = []
      · rw [if_pos he]
        exact Ev.congr (fun k => if_pos he) (Ev.now _)
      · rw [if_neg he]
        refine Ev.congr (fun k => if_neg he) ?_
        rw [List.drop_eq_nil_iff] at he
        by_cases ht : isText ((l.drop (i + 1)).headD 0) = true
        · rw [if_pos ht]
          refine Ev.congr (fun k => if_pos ht) ?_
          have := (n2 (by omega) T d (by omega)).2.2.1 (w ++ [(l.drop (i + 1)).headD 0]) (by simp; omega)
          rw [if_pos rfl, ← drop_head]
          exact this
        · rw [if_neg ht]
          exact Ev.congr (fun k => if_neg ht) (Ev.now _)
    rw [if_neg h92]
    refine Ev.congr (fun k => if_neg (by omega)) ?_
    have j5 : isText (l.getD i 0) = true → Ev (fun k => bulletinref12_Scan.j5 k (str l) (T.map tok37) (str w) 2 d false (i : Int) ((l.getD i 0 : Nat) : Int)) (resT T (afterQ (if l.getD i 0 = 34 then .ok (w, l.drop (i + 1)) else if isText (l.getD i 0) = true then quo (w ++ [l.getD i 0]) (l.drop (i + 1)) else .error 3))) := by
      intro ht
      refine Ev.step (f := fun k => if ((l.getD i 0 : Nat) : Int) = 34 then bulletinref12_Scan.l0 k (str l) (T.map tok37 ++ [(⟨2, str w⟩ : S37)]) (⟨#[]⟩ : ByteArray) 0 d false ((i + 1 : Nat) : Int) else bulletinref12_Scan.l0 k (str l) (T.map tok37) (str (w ++ [l.getD i 0])) 2 d false ((i + 1 : Nat) : Int)) (fun k => ?_) ?_
      · conv => lhs; unfold bulletinref12_Scan.j5
        rw [wi, e1, str_size, str_size, str_size, if_pos (c := (2 : Int) = 2) rfl, if_pos hX]
        rw [if_pos (c := (0 : Int) ≤ (i : Int)) (by omega), if_pos (c := (i : Int) ≤ ((i + 1 : Nat) : Int)) (by omega), if_pos (c := ((i + 1 : Nat) : Int) ≤ (l.length : Int)) (by omega)]
        rw [if_pos (c := w.length + [l.getD i 0].length ≤ 9223372036854775807) (by simp only [List.length_singleton]; omega), ← str_append]
      by_cases h34 : l.getD i 0 = 34
      · rw [if_pos h34]
        refine Ev.congr (fun k => if_pos (by omega)) ?_
        have := (n1 (T ++ [(2, w)]) d (by simp; omega)).1
        rw [List.map_append, resT_con] at this
        exact this
      · rw [if_neg h34, if_pos ht]
        exact Ev.congr (fun k => if_neg (by omega)) ((n1 T d (by omega)).2.2.1 (w ++ [l.getD i 0]) (by simp; omega))
    by_cases ht : isText (l.getD i 0) = true
    · exact Ev.congr (fun k => if_pos ht) (j5 ht)
    · have h34 : l.getD i 0 ≠ 34 := by
        intro h
        rw [h] at ht
        exact ht rfl
      rw [if_neg h34, if_neg ht]
      exact Ev.congr (fun k => if_neg ht) (Ev.now _)
  · -- in a comment
    intro e h1 h16
    refine r_open hb hl hi _ _ 3 e (by decide) (r_fold hb hl hi _ _ 3 e ?_)
    rw [drop_cons hi, comm, hd, ← drop_cons hi]
    by_cases hf : foldAt (l.drop i) = true
    · rw [if_pos hf]
      exact Ev.congr (fun k => if_pos hf) ((n2 (fl hf) T d (by omega)).2.2.2 e h1 h16)
    rw [if_neg (c := foldAt (l.drop i) = true) hf]
    refine Ev.congr (fun k => if_neg hf) ?_
    refine Ev.step (f := fun k => if ((l.getD i 0 : Nat) : Int) = 92 then bulletinref12_Scan.l0 k (str l) (T.map tok37) (⟨#[]⟩ : ByteArray) 3 (e : Int) true ((i + 1 : Nat) : Int) else if isText (l.getD i 0) = true then bulletinref12_Scan.j5 k (str l) (T.map tok37) (⟨#[]⟩ : ByteArray) 3 (e : Int) false (i : Int) ((l.getD i 0 : Nat) : Int) else some ([], 3)) (fun k => ?_) ?_
    · conv => lhs; unfold bulletinref12_Scan.j4
      rw [if_pos (by decide), wi, t1]
      rfl
    by_cases h92 : l.getD i 0 = 92
    · rw [if_pos h92]
      refine Ev.congr (fun k => if_pos (by omega)) (r_behind hb hl _ [] 3 e (.inr rfl) hX2 (by simp) ?_)
      by_cases he : l.drop (i + 1) = []
      · rw [if_pos he]
        exact Ev.congr (fun k => if_pos he) (Ev.now _)
      · rw [if_neg he]
        refine Ev.congr (fun k => if_neg he) ?_
        rw [List.drop_eq_nil_iff] at he
        by_cases ht : isText ((l.drop (i + 1)).headD 0) = true
        · rw [if_pos ht]
          refine Ev.congr (fun k => if_pos ht) ?_
          rw [if_neg (by decide)]
          exact (n2 (by omega) T d (by omega)).2.2.2 e h1 h16
        · rw [if_neg ht]
          exact Ev.congr (fun k => if_neg ht) (Ev.now _)
    rw [if_neg h92]
    refine Ev.congr (fun k => if_neg (by omega)) ?_
    have j7 : ∀ (f : Nat), f ≤ 17 → Ev (fun k => bulletinref12_Scan.j7 k (str l) (T.map tok37) (⟨#[]⟩ : ByteArray) 3 (f : Int) false (i : Int)) (resT T (afterC (if f = 17 then .error 1 else if f = 0 then .ok (l.drop (i + 1)) else comm f (l.drop (i + 1))))) := by
      intro f hf17
      refine Ev.step (f := fun k => if f = 17 then some ([], 1) else if f = 0 then bulletinref12_Scan.l0 k (str l) (T.map tok37) (⟨#[]⟩ : ByteArray) 0 (f : Int) false ((i + 1 : Nat) : Int) else bulletinref12_Scan.l0 k (str l) (T.map tok37) (⟨#[]⟩ : ByteArray) 3 (f : Int) false ((i + 1 : Nat) : Int)) (fun k => ?_) ?_
      · conv => lhs; unfold bulletinref12_Scan.j7
        rw [wi]
        by_cases hf1 : f = 17
        · rw [if_pos hf1, if_pos (by omega)]
        · rw [if_neg hf1, if_neg (by omega)]
          by_cases hf0 : f = 0
          · rw [if_pos hf0, if_pos (by omega)]
          · rw [if_neg hf0, if_neg (by omega)]
      by_cases hf1 : f = 17
      · rw [if_pos hf1]
        exact Ev.congr (fun k => if_pos hf1) (Ev.now _)
      rw [if_neg hf1]
      refine Ev.congr (fun k => if_neg hf1) ?_
      by_cases hf0 : f = 0
      · rw [if_pos hf0]
        exact Ev.congr (fun k => if_pos hf0) (n1 T f (by omega)).1
      · rw [if_neg hf0]
        exact Ev.congr (fun k => if_neg hf0) ((n1 T d (by omega)).2.2.2 f (by omega) (by omega))
    have j5 : Ev (fun k => bulletinref12_Scan.j5 k (str l) (T.map tok37) (⟨#[]⟩ : ByteArray) 3 (e : Int) false (i : Int) ((l.getD i 0 : Nat) : Int)) (resT T (afterC (if l.getD i 0 = 40 then (if e = 16 then .error 1 else comm (e + 1) (l.drop (i + 1))) else if l.getD i 0 = 41 then (if e = 1 then .ok (l.drop (i + 1)) else comm (e - 1) (l.drop (i + 1))) else comm e (l.drop (i + 1))))) := by
      refine Ev.step (f := fun k => bulletinref12_Scan.j6 k (str l) (T.map tok37) (⟨#[]⟩ : ByteArray) 3 ((if l.getD i 0 = 40 then e + 1 else e : Nat) : Int) false (i : Int) ((l.getD i 0 : Nat) : Int)) (fun k => ?_) ?_
      · conv => lhs; unfold bulletinref12_Scan.j5
        rw [if_neg (c := (3 : Int) = 2) (by decide), if_pos (c := (3 : Int) = 3) rfl, w64 (x := (e : Int) + 1) (by omega) (by omega)]
        by_cases h40 : l.getD i 0 = 40
        · rw [if_pos (by omega), if_pos h40]; rfl
        · rw [if_neg (by omega), if_neg h40]
      refine Ev.step (f := fun k => bulletinref12_Scan.j7 k (str l) (T.map tok37) (⟨#[]⟩ : ByteArray) 3 ((if l.getD i 0 = 40 then e + 1 else if l.getD i 0 = 41 then e - 1 else e : Nat) : Int) false (i : Int)) (fun k => ?_) ?_
      · conv => lhs; unfold bulletinref12_Scan.j6
        by_cases h40 : l.getD i 0 = 40
        · rw [if_neg (by omega), if_pos h40, if_pos h40]
        · rw [if_neg h40, if_neg h40, w64 (x := (e : Int) - 1) (by omega) (by omega)]
          by_cases h41 : l.getD i 0 = 41
          · rw [if_pos (by omega), if_pos h41, show ((e : Int) - 1) = ((e - 1 : Nat) : Int) by omega]
          · rw [if_neg (by omega), if_neg h41]
      by_cases h40 : l.getD i 0 = 40
      · rw [if_pos h40, if_pos h40]
        have := j7 (e + 1) (by omega)
        rw [if_neg (c := e + 1 = 0) (by omega)] at this
        by_cases h16' : e = 16
        · rw [if_pos h16']
          rw [if_pos (by omega)] at this
          exact this
        · rw [if_neg h16']
          rw [if_neg (by omega)] at this
          exact this
      rw [if_neg h40, if_neg h40]
      by_cases h41 : l.getD i 0 = 41
      · rw [if_pos h41, if_pos h41]
        have := j7 (e - 1) (by omega)
        rw [if_neg (c := e - 1 = 17) (by omega)] at this
        by_cases h1' : e = 1
        · rw [if_pos h1']
          rw [if_pos (by omega)] at this
          exact this
        · rw [if_neg h1']
          rw [if_neg (by omega)] at this
          exact this
      rw [if_neg h41, if_neg h41]
      have := j7 e (by omega)
      rw [if_neg (by omega), if_neg (by omega)] at this
      exact this
    by_cases ht : isText (l.getD i 0) = true
    · rw [if_pos (c := isText (l.getD i 0) = true) ht]
      exact Ev.congr (fun k => if_pos ht) j5
    · have h40 : l.getD i 0 ≠ 40 := by
        intro h
        rw [h] at ht
        exact ht rfl
      have h41 : l.getD i 0 ≠ 41 := by
        intro h
        rw [h] at ht
        exact ht rfl
      rw [if_neg h40, if_neg h41, if_neg ht]
      exact Ev.congr (fun k => if_neg ht) (Ev.now _)
theorem ref_all : ∀ (n i : Nat), l.length - i ≤ n → i ≤ l.length → RefAt l i := by
  intro n
  induction n with
  | zero => intro i hn hi; exact ref_stop hb hl (by omega) hi
  | succ n ih =>
    intro i hn hi
    rcases Nat.lt_or_ge i l.length with h | h
    · exact ref_step hb hl h (ih (i + 1) (by omega) (by omega)) (fun h2 => ih (i + 2) (by omega) h2)
    · exact ref_stop hb hl h hi
theorem ref_ev : Ev (fun k => bulletinref12_Scan.f k (str l)) (resT [] (scan l)) :=
  (ref_all hb hl l.length 0 (by omega) (by omega) [] 0 (by simp)).1
end
end Go.Proofs.Ytldmldhnhfjmlaa.Sem
