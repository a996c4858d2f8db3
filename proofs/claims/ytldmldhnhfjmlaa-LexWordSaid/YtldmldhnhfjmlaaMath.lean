/- The document's scanner on plain lists of bytes: which tokens a text has, or why it has none. Bytes are numbers below 256. -/
import Derived.Test.YtldmldhnhfjmlaaWWords
namespace Go.Proofs.Ytldmldhnhfjmlaa.Math
set_option linter.unusedVariables false

def white (c : Nat) : Bool := c == 32 || c == 9
def isText (c : Nat) : Bool := c == 9 || (decide (32 ≤ c) && c != 127)
def special (c : Nat) : Bool := c == 60 || c == 62 || c == 58 || c == 59 || c == 64 || c == 44 || c == 46
def atomic (c : Nat) : Bool := decide (127 < c) || (decide (32 < c) && decide (c < 127) && !(special c) && c != 40 && c != 41 && c != 91 && c != 93 && c != 92 && c != 34)
def foldAt : List Nat → Bool
  | a :: b :: c :: _ => a == 13 && b == 10 && white c
  | _ => false

/-- What stands behind a comment that is so deep. -/
def comm (d : Nat) (l : List Nat) : Except Nat (List Nat) :=
  match l with
  | [] => .error 9
  | c :: r =>
    if foldAt (c :: r) = true then comm d (r.drop 1)
    else if c = 92 then (if r = [] then .error 9 else if isText (r.headD 0) = true then comm d (r.drop 1) else .error 3)
    else if c = 40 then (if d = 16 then .error 1 else comm (d + 1) r)
    else if c = 41 then (if d = 1 then .ok r else comm (d - 1) r)
    else if isText c = true then comm d r
    else .error 3
termination_by l.length
decreasing_by all_goals (simp only [List.length_cons, List.length_drop]; omega)

/-- The quoted text, and what stands behind it. -/
def quo (w : List Nat) (l : List Nat) : Except Nat (List Nat × List Nat) :=
  match l with
  | [] => .error 9
  | c :: r =>
    if foldAt (c :: r) = true then quo w (r.drop 1)
    else if c = 92 then (if r = [] then .error 9 else if isText (r.headD 0) = true then quo (w ++ [r.headD 0]) (r.drop 1) else .error 3)
    else if c = 34 then .ok (w, r)
    else if isText c = true then quo (w ++ [c]) r
    else .error 3
termination_by l.length
decreasing_by all_goals (simp only [List.length_cons, List.length_drop]; omega)

/-- The atom that a text begins with, and what stands behind it. -/
def span : List Nat → List Nat × List Nat
  | [] => ([], [])
  | c :: l => if atomic c = true then (c :: (span l).1, (span l).2) else ([], c :: l)

abbrev Tok := Nat × List Nat
def con (t : Tok) (r : Except Nat (List Tok)) : Except Nat (List Tok) := r.map (t :: ·)

theorem comm_shorter (d : Nat) (l r : List Nat) (h : comm d l = .ok r) : r.length < l.length := by
  have key : ∀ (n d : Nat) (l r : List Nat), l.length ≤ n → comm d l = .ok r → r.length < l.length := by
    intro n
    induction n with
    | zero => intro d l r hn h; rw [List.eq_nil_of_length_eq_zero (by omega : l.length = 0), comm] at h; cases h
    | succ n ih =>
      intro d l r hn h
      cases l with
      | nil => rw [comm] at h; cases h
      | cons c l =>
        simp only [List.length_cons] at hn ⊢
        have hl : (l.drop 1).length ≤ l.length := by rw [List.length_drop]; omega
        rw [comm] at h
        split at h
        · have := ih _ _ _ (by omega) h; omega
        split at h
        · split at h
          · cases h
          split at h
          · have := ih _ _ _ (by omega) h; omega
          · cases h
        split at h
        · split at h
          · cases h
          · have := ih _ _ _ (by omega) h; omega
        split at h
        · split at h
          · cases h; omega
          · have := ih _ _ _ (by omega) h; omega
        split at h
        · have := ih _ _ _ (by omega) h; omega
        · cases h
  exact key _ d l r (Nat.le_refl _) h
theorem quo_shorter (w l : List Nat) (x : List Nat × List Nat) (h : quo w l = .ok x) : x.2.length < l.length := by
  have key : ∀ (n : Nat) (w l : List Nat) (x : List Nat × List Nat), l.length ≤ n → quo w l = .ok x → x.2.length < l.length := by
    intro n
    induction n with
    | zero => intro w l r hn h; rw [List.eq_nil_of_length_eq_zero (by omega : l.length = 0), quo] at h; cases h
    | succ n ih =>
      intro w l r hn h
      cases l with
      | nil => rw [quo] at h; cases h
      | cons c l =>
        simp only [List.length_cons] at hn ⊢
        have hl : (l.drop 1).length ≤ l.length := by rw [List.length_drop]; omega
        rw [quo] at h
        split at h
        · have := ih _ _ _ (by omega) h; omega
        split at h
        · split at h
          · cases h
          split at h
          · have := ih _ _ _ (by omega) h; omega
          · cases h
        split at h
        · cases h; simp
        split at h
        · have := ih _ _ _ (by omega) h; omega
        · cases h
  exact key _ w l x (Nat.le_refl _) h
theorem span_append (l : List Nat) : (span l).1 ++ (span l).2 = l := by
  induction l with
  | nil => rfl
  | cons c l ih =>
    unfold span
    split
    · simp [ih]
    · rfl
theorem span_shorter (c : Nat) (l : List Nat) (h : atomic c = true) : (span (c :: l)).2.length < (c :: l).length := by
  have := congrArg List.length (span_append l)
  unfold span
  rw [if_pos h]
  simp only [List.length_append, List.length_cons] at this ⊢
  omega

/-- The tokens, or why there are none. -/
def scan (l : List Nat) : Except Nat (List Tok) :=
  match l with
  | [] => .ok []
  | c :: r =>
    if white c = true then scan r
    else if foldAt (c :: r) = true then scan (r.drop 1)
    else if c = 40 then (match h : comm 1 r with
      | .ok r2 => scan r2
      | .error e => .error e)
    else if c = 34 then (match h : quo [] r with
      | .ok x => con (2, x.1) (scan x.2)
      | .error e => .error e)
    else if special c = true then con (3, [c]) (scan r)
    else if h : atomic c = true then con (1, (span (c :: r)).1) (scan (span (c :: r)).2)
    else .error 3
termination_by l.length
decreasing_by
  · simp
  · simp only [List.length_cons, List.length_drop]; omega
  · have := comm_shorter 1 r r2 h; simp only [List.length_cons]; omega
  · have := quo_shorter [] r x h; simp only [List.length_cons]; omega
  · simp
  · exact span_shorter c r h
theorem scan_nil : scan [] = .ok [] := by rw [scan]
theorem scan_cons (c : Nat) (r : List Nat) : scan (c :: r) =
    if white c = true then scan r
    else if foldAt (c :: r) = true then scan (r.drop 1)
    else if c = 40 then (match comm 1 r with
      | .ok r2 => scan r2
      | .error e => .error e)
    else if c = 34 then (match quo [] r with
      | .ok x => con (2, x.1) (scan x.2)
      | .error e => .error e)
    else if special c = true then con (3, [c]) (scan r)
    else if atomic c = true then con (1, (span (c :: r)).1) (scan (span (c :: r)).2)
    else .error 3 := by
  rw [scan]
  split <;> try rfl
  split <;> try rfl
  split
  · split <;> simp_all
  · split
    · split <;> simp_all
    · split <;> rfl

/-! ### The kinds of bytes -/
theorem kinds (c : Nat) (h : atomic c = true) : white c = false ∧ special c = false ∧ c ≠ 40 ∧ c ≠ 34 ∧ c ≠ 13 ∧ c ≠ 92 ∧ isText c = true := by
  unfold atomic special at h
  unfold white special isText
  simp at h ⊢
  omega
theorem kinds_special (c : Nat) (h : special c = true) : white c = false ∧ atomic c = false ∧ c ≠ 40 ∧ c ≠ 34 ∧ c ≠ 13 := by
  unfold special at h
  unfold white atomic special
  simp at h ⊢
  omega
theorem kinds_white (c : Nat) (h : white c = true) : atomic c = false ∧ special c = false ∧ c ≠ 40 ∧ c ≠ 34 ∧ c ≠ 13 ∧ isText c = true := by
  unfold white at h
  unfold special isText atomic special
  simp at h ⊢
  omega
theorem foldAt_ne (c : Nat) (r : List Nat) (h : c ≠ 13) : foldAt (c :: r) = false := by
  match r with
  | [] => rfl
  | [_] => rfl
  | _ :: _ :: _ => simp [foldAt, h]
end Go.Proofs.Ytldmldhnhfjmlaa.Math
