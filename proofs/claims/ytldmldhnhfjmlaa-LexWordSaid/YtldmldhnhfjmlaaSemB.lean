/- What the program's quoted texts, its next and its Scan come to: the document's, on lists. Condition: of at most five thousand bytes. -/
import Derived.Test.YtldmldhnhfjmlaaSemA
import Derived.Test.YtldmldhnhfjmlaaPLx4
import Derived.Test.YtldmldhnhfjmlaaPLx5
namespace Go.Proofs.Ytldmldhnhfjmlaa.Sem
open Go.RowKit Go.Proofs.Ytldmldhnhfjmlaa.PL Go.Proofs.YtldmldhnhfjmlaaW.PrintWords Go.Proofs.YtldmldhnhfjmlaaW.PrintLast Go.Proofs.YtldmldhnhfjmlaaW.PrintMore Go.Proofs.Ytldmldhnhfjmlaa.Math Go.Proofs.Ytldmldhnhfjmlaa.Base
set_option linter.unusedVariables false

theorem sign_eq : ∀ c : Nat, c < 256 → lex_sign.f (c : Int) = some (special c) := by decide +kernel

/-! ### A quoted text -/
def resQ (r : Except Nat (List Nat × List Nat)) : Int × ByteArray × ByteArray × Int := match r with
  | .ok x => (2, str x.1, str x.2, 0)
  | .error e => (0, (⟨#[]⟩ : ByteArray), (⟨#[]⟩ : ByteArray), (e : Int))
theorem quoted_loop {l : List Nat} (hb : Bytes l) (hl : l.length ≤ 100000) : ∀ (n i : Nat) (w : List Nat), l.length - i ≤ n → i ≤ l.length + 1 → w.length ≤ i →
    Ev (fun k => lex_quoted.l0 k (str l) (ints w) (i : Int)) (resQ (quo w (l.drop i))) := by
  have stop : ∀ (i : Nat) (w : List Nat), l.length ≤ i → Ev (fun k => lex_quoted.l0 k (str l) (ints w) (i : Int)) (resQ (quo w (l.drop i))) := by
    intro i w h
    rw [List.drop_of_length_le h, quo]
    refine Ev.step (f := fun _ => some (0, (⟨#[]⟩ : ByteArray), (⟨#[]⟩ : ByteArray), 9)) (fun k => ?_) (Ev.now _)
    conv => lhs; unfold lex_quoted.l0
    rw [str_size, if_neg (by omega)]
  intro n
  induction n with
  | zero => intro i w hn hi hw; exact stop i w (by omega)
  | succ n ih =>
    intro i w hn hi hw
    rcases Nat.lt_or_ge i l.length with hlt | hge
    · have hc := getD_byte hb i
      have e1 : (str l).extract ((i : Int)).toNat (str l).size = str (l.drop i) := extract_from hb i
      have e2 : (str l).extract (((i + 1 : Nat) : Int)).toNat (str l).size = str (l.drop (i + 1)) := extract_from hb (i + 1)
      have eb := bt_str hb i
      have eb1 := bt_str hb (i + 1)
      have esc := escaped_eq (hb.drop (i + 1))
      have hd : (l.drop (i + 1)).drop 1 = l.drop (i + 2) := by rw [List.drop_drop]
      have hh := drop_head l (i + 1)
      have hemp : l.drop (i + 1) = [] ↔ l.length ≤ i + 1 := List.drop_eq_nil_iff
      have start : ∀ k, lex_quoted.l0 (k + 1) (str l) (ints w) (i : Int) = (if foldAt (l.drop i) = true then (lex_quoted.l0 k (str l) (ints w) ((i + 2 : Nat) : Int)) else (if ((l.getD i 0 : Nat) : Int) = 92 then ((lex_escaped.f (str (l.drop (i + 1)))).bind fun t116 => (if t116 = 0 then (if ((i + 1 : Nat) : Int) < (l.length : Int) then (if (ints w).length < 140737488355328 then (lex_quoted.l0 k (str l) (ints w ++ [((l.getD (i + 1) 0 : Nat) : Int)]) ((i + 2 : Nat) : Int)) else (none)) else (none)) else (some (0, (⟨#[]⟩ : ByteArray), (⟨#[]⟩ : ByteArray), t116)))) else (if ((l.getD i 0 : Nat) : Int) = 34 then (some (2, str w, str (l.drop (i + 1)), 0)) else ((lex_text.f ((l.getD i 0 : Nat) : Int)).bind fun t120 => (if t120 = true then (if (ints w).length < 140737488355328 then (lex_quoted.l0 k (str l) (ints w ++ [((l.getD i 0 : Nat) : Int)]) ((i + 1 : Nat) : Int)) else (none)) else (some (0, (⟨#[]⟩ : ByteArray), (⟨#[]⟩ : ByteArray), 3))))))) := by
        intro k
        conv => lhs; unfold lex_quoted.l0
        rw [e1, fold_eq (hb.drop i), eb, str_size, w64 (x := (i : Int) + 1) (by omega) (by omega), w64 (x := (i : Int) + 1 + 1) (by omega) (by omega)]
        rw [show ((i : Int) + 1) = ((i + 1 : Nat) : Int) by omega, show (((i + 1 : Nat) : Int) + 1) = ((i + 2 : Nat) : Int) by omega]
        rw [if_pos (c := (i : Int) < (l.length : Int)) (by omega), if_pos (c := (0 : Int) ≤ (i : Int)) (by omega), if_pos (c := (i : Int) ≤ (l.length : Int)) (by omega)]
        simp only [Option.bind_some]
        rw [eb1, ← str_size l, e2, str_size, if_pos (c := (0 : Int) ≤ ((i + 1 : Nat) : Int)) (by omega), if_pos (c := ((i + 1 : Nat) : Int) ≤ (l.length : Int)) (by omega)]
        rw [if_pos (c := (0 : Int) ≤ ((i + 1 : Nat) : Int)) (by omega), if_pos (c := ((i + 1 : Nat) : Int) ≤ (l.length : Int)) (by omega)]
        rfl
      have hlen : (ints w).length < 140737488355328 := by rw [ints_length]; omega
      refine Ev.step start ?_
      rw [drop_cons hlt, quo, hd, hh]
      rw [← drop_cons hlt]
      generalize hcc : l.getD i 0 = c at hc
      by_cases hf : foldAt (l.drop i) = true
      · rw [if_pos hf]
        exact Ev.congr (fun k => if_pos hf) (ih (i + 2) w (by omega) (by omega) (by omega))
      rw [if_neg hf]
      refine Ev.congr (fun k => if_neg hf) ?_
      by_cases h92 : c = 92
      · rw [if_pos h92]
        refine Ev.congr (fun k => (if_pos (by omega)).trans (by rw [esc])) ?_
        simp only [Option.bind_some]
        by_cases he : l.drop (i + 1) = []
        · rw [if_pos he, if_pos he]
          exact Ev.congr (fun k => if_neg (by decide)) (Ev.now _)
        · have hle := mt hemp.2 he
          rw [if_neg he, if_neg he, hh]
          by_cases ht : isText (l.getD (i + 1) 0) = true
          · rw [if_pos ht, if_pos ht]
            have := ih (i + 2) (w ++ [l.getD (i + 1) 0]) (by omega) (by omega) (by simp; omega)
            rw [ints_append] at this
            exact Ev.congr (fun k => (if_pos rfl).trans ((if_pos (by omega)).trans (if_pos hlen))) this
          · rw [if_neg ht, if_neg ht]
            exact Ev.congr (fun k => if_neg (by decide)) (Ev.now _)
      rw [if_neg h92]
      refine Ev.congr (fun k => if_neg (by omega)) ?_
      by_cases h34 : c = 34
      · rw [if_pos h34]
        exact Ev.congr (fun k => if_pos (by omega)) (Ev.now _)
      rw [if_neg h34]
      refine Ev.congr (fun k => (if_neg (by omega)).trans (by rw [text_eq c hc])) ?_
      simp only [Option.bind_some]
      by_cases ht : isText c = true
      · rw [if_pos ht]
        have := ih (i + 1) (w ++ [c]) (by omega) (by omega) (by simp; omega)
        rw [ints_append] at this
        exact Ev.congr (fun k => (if_pos ht).trans (if_pos hlen)) this
      · rw [if_neg ht]
        exact Ev.congr (fun k => if_neg ht) (Ev.now _)
    · exact stop i w hge

/-! ### next -/
def nxt (c : Nat) (r : List Nat) : Int × ByteArray × ByteArray × Int :=
  if white c = true then (0, (⟨#[]⟩ : ByteArray), str r, 0)
  else if foldAt (c :: r) = true then (0, (⟨#[]⟩ : ByteArray), str (r.drop 1), 0)
  else if c = 40 then (0, (⟨#[]⟩ : ByteArray), (resC (comm 1 r)).1, (resC (comm 1 r)).2)
  else if c = 34 then resQ (quo [] r)
  else if special c = true then (3, str [c], str r, 0)
  else if atomic c = true then (1, str (span (c :: r)).1, str (span (c :: r)).2, 0)
  else (0, (⟨#[]⟩ : ByteArray), (⟨#[]⟩ : ByteArray), 3)
theorem span_bytes {l : List Nat} (h : Bytes l) : Bytes (span l).1 ∧ Bytes (span l).2 := by
  have e := span_append l
  constructor
  · intro c hc; exact h c (by rw [← e]; exact List.mem_append.2 (.inl hc))
  · intro c hc; exact h c (by rw [← e]; exact List.mem_append.2 (.inr hc))
theorem atom_loop {l : List Nat} (hb : Bytes l) (hl : l.length ≤ 100000) : ∀ (n i : Nat), l.length - i ≤ n → i ≤ l.length →
    Ev (fun k => lex_next.l0 k (str l) (i : Int)) (if (i + (span (l.drop i)).1.length) = 0 then (0, (⟨#[]⟩ : ByteArray), (⟨#[]⟩ : ByteArray), 3) else (1, str (l.take (i + (span (l.drop i)).1.length)), str (l.drop (i + (span (l.drop i)).1.length)), 0)) := by
  have stop : ∀ (k i : Nat), i ≤ l.length → (if (i : Int) = 0 then (some ((0 : Int), (⟨#[]⟩ : ByteArray), (⟨#[]⟩ : ByteArray), (3 : Int))) else (if (i : Int) ≤ ((str l).size : Int) then (some ((1 : Int), (str l).extract 0 (i : Int).toNat, (str l).extract (i : Int).toNat (str l).size, (0 : Int))) else (none))) = some (if i = 0 then ((0 : Int), (⟨#[]⟩ : ByteArray), (⟨#[]⟩ : ByteArray), (3 : Int)) else (1, str (l.take i), str (l.drop i), 0)) := by
    intro k i hi
    by_cases h0 : i = 0
    · rw [if_pos (by omega), if_pos h0]
    · rw [if_neg (by omega), if_neg h0, if_pos (by rw [str_size]; omega), Int.toNat_natCast, extract_from hb, extract_to hb]
  intro n
  induction n with
  | zero =>
    intro i hn hi
    rw [List.drop_of_length_le (by omega : l.length ≤ i)]
    refine Ev.step (f := fun _ => some _) (fun k => ?_) (Ev.now _)
    conv => lhs; unfold lex_next.l0
    rw [if_neg (by rw [str_size]; omega), if_pos (c := (0 : Int) ≤ (i : Int)) (by omega)]
    rw [stop k i hi]
    simp [span, List.drop_of_length_le (by omega : l.length ≤ i)]
  | succ n ih =>
    intro i hn hi
    rcases Nat.lt_or_ge i l.length with hlt | hge
    · have hc := getD_byte hb i
      have eb := bt_str hb i
      have start : ∀ k, lex_next.l0 (k + 1) (str l) (i : Int) = (if atomic (l.getD i 0) = true then (lex_next.l0 k (str l) ((i + 1 : Nat) : Int)) else some (if i = 0 then ((0 : Int), (⟨#[]⟩ : ByteArray), (⟨#[]⟩ : ByteArray), (3 : Int)) else (1, str (l.take i), str (l.drop i), 0))) := by
        intro k
        conv => lhs; unfold lex_next.l0
        rw [if_pos (by rw [str_size]; omega), if_pos (by omega), eb, atomic_eq _ hc, w64 (by omega) (by omega), stop k i hi]
        simp only [Option.bind_some]
        rfl
      refine Ev.step start ?_
      have hs := congrArg span (drop_cons hlt)
      rw [hs]
      by_cases ha : atomic (l.getD i 0) = true
      · refine Ev.congr (fun k => if_pos ha) ?_
        have := ih (i + 1) (by omega) (by omega)
        rw [span, if_pos ha]
        simp only [List.length_cons]
        rw [show i + ((span (l.drop (i + 1))).1.length + 1) = i + 1 + (span (l.drop (i + 1))).1.length by omega]
        exact this
      · refine Ev.congr (fun k => if_neg ha) ?_
        rw [span, if_neg ha]
        exact Ev.now _
    · obtain rfl : i = l.length := by omega
      rw [List.drop_of_length_le (Nat.le_refl _)]
      refine Ev.step (f := fun _ => some _) (fun k => ?_) (Ev.now _)
      conv => lhs; unfold lex_next.l0
      rw [if_neg (by rw [str_size]; omega), if_pos (c := (0 : Int) ≤ (l.length : Int)) (by omega)]
      rw [stop k l.length hi]
      simp [span]
theorem next_ev {c : Nat} {r : List Nat} (hb : Bytes (c :: r)) (hl : (c :: r).length ≤ 100000) : Ev (fun k => lex_next.f k (str (c :: r))) (nxt c r) := by
  have hc : c < 256 := hb.head
  have b0 : bt (str (c :: r)) 0 = ((c : Nat) : Int) := bt_str hb 0
  have x1 : (str (c :: r)).extract 1 (str (c :: r)).size = str r := extract_from hb 1
  have x2 : (str (c :: r)).extract 2 (str (c :: r)).size = str (r.drop 1) := extract_from hb 2
  have x3 : (str (c :: r)).extract 0 1 = str [c] := extract_to hb 1
  have sz : ((str (c :: r)).size : Int) = ((r.length + 1 : Nat) : Int) := by rw [str_size, List.length_cons]
  have start : ∀ k, lex_next.f k (str (c :: r)) = (if white c = true then (some ((0 : Int), (⟨#[]⟩ : ByteArray), str r, (0 : Int))) else (if foldAt (c :: r) = true then (if (2 : Int) ≤ ((str (c :: r)).size : Int) then (some (0, (⟨#[]⟩ : ByteArray), str (r.drop 1), 0)) else (none)) else (if ((c : Nat) : Int) = 40 then ((lex_comment.f k (str (c :: r))).bind fun bt128 => (some (0, (⟨#[]⟩ : ByteArray), bt128.1, bt128.2))) else (if ((c : Nat) : Int) = 34 then ((lex_quoted.f k (str (c :: r))).bind fun bt130 => (some (bt130.1, bt130.2.1, bt130.2.2.1, bt130.2.2.2))) else (if special c = true then (some (3, str [c], str r, 0)) else (lex_next.l0 k (str (c :: r)) 0)))))) := by
    intro k
    unfold lex_next.f
    rw [b0, x1, x2, x3, white_eq c hc, fold_eq hb, sign_eq c hc, if_pos (c := (0 : Int) < ((str (c :: r)).size : Int)) (by omega)]
    simp only [Option.bind_some]
    rw [if_pos (c := (1 : Int) ≤ ((str (c :: r)).size : Int)) (by omega), if_pos (c := (0 : Nat) ≤ 1) (by omega), if_pos (c := (1 : Int) ≤ ((str (c :: r)).size : Int)) (by omega)]
  refine Ev.congr start ?_
  unfold nxt
  by_cases hw : white c = true
  · rw [if_pos hw]; exact Ev.congr (fun k => if_pos hw) (Ev.now _)
  rw [if_neg hw]
  refine Ev.congr (fun k => if_neg hw) ?_
  by_cases hf : foldAt (c :: r) = true
  · rw [if_pos hf]
    have : 2 ≤ r.length := by
      match r, hf with
      | _ :: _ :: _, _ => simp
    exact Ev.congr (fun k => (if_pos hf).trans (if_pos (by omega))) (Ev.now _)
  rw [if_neg hf]
  refine Ev.congr (fun k => if_neg hf) ?_
  by_cases h40 : c = 40
  · rw [if_pos h40]
    refine Ev.congr (fun k => if_pos (by omega)) (Ev.bind (g := fun k => lex_comment.f k (str (c :: r))) (a := resC (comm 1 r)) ?_ (Ev.now _))
    -- the first byte opens it
    have := comment_loop hb hl ((c :: r).length) 1 1 (by omega) (by simp) (by omega) (by omega)
    have hcf : foldAt (c :: r) = false := by simpa using hf
    refine Ev.congr (f := fun k => lex_comment.l0 k (str (c :: r)) 0 0) (fun k => rfl) (Ev.step (fun k => ?_) (Ev.step (g := fun k => lex_comment.j1 k (str (c :: r)) 0 0 ((c : Nat) : Int) false) (fun k => ?_) this))
    · conv => lhs; unfold lex_comment.l0
      rw [show (0 : Int).toNat = 0 from rfl, extract_from hb 0, List.drop_zero, fold_eq hb, b0, if_pos (c := (0 : Int) < ((str (c :: r)).size : Int)) (by omega), if_pos (c := (0 : Int) ≤ 0) (by omega), if_pos (c := (0 : Int) ≤ ((str (c :: r)).size : Int)) (by omega)]
      simp only [Option.bind_some]
      rw [if_neg hf, if_neg (by omega), if_pos (by omega)]
      rfl
    · conv => lhs; unfold lex_comment.j1
      rw [if_neg (by decide), if_pos (by omega), w64 (by omega) (by omega)]
      rfl
  rw [if_neg h40]
  refine Ev.congr (fun k => if_neg (by omega)) ?_
  by_cases h34 : c = 34
  · rw [if_pos h34]
    have := quoted_loop hb hl ((c :: r).length) 1 [] (by omega) (by simp) (by simp)
    exact Ev.congr (fun k => if_pos (by omega)) (Ev.bind (g := fun k => lex_quoted.f k (str (c :: r))) this (Ev.now _))
  rw [if_neg h34]
  refine Ev.congr (fun k => if_neg (by omega)) ?_
  by_cases hs : special c = true
  · rw [if_pos hs]; exact Ev.congr (fun k => if_pos hs) (Ev.now _)
  rw [if_neg hs]
  refine Ev.congr (fun k => if_neg hs) ?_
  have := atom_loop hb hl ((c :: r).length) 0 (by omega) (by omega)
  rw [List.drop_zero, Nat.zero_add] at this
  by_cases ha : atomic c = true
  · rw [if_pos ha]
    have e := span_append (c :: r)
    have e1 : ((span (c :: r)).1 ++ (span (c :: r)).2).take (span (c :: r)).1.length = (span (c :: r)).1 := List.take_left
    have e2 : ((span (c :: r)).1 ++ (span (c :: r)).2).drop (span (c :: r)).1.length = (span (c :: r)).2 := List.drop_left
    rw [e] at e1 e2
    rw [e1, e2, if_neg (by rw [span, if_pos ha]; simp)] at this
    exact this
  · rw [if_neg ha]
    rw [span, if_neg ha] at this
    exact this

/-! ### Scan -/
def tok43 (t : Tok) : S43 := ⟨(t.1 : Int), str t.2⟩
def resS (T : List Tok) (r : Except Nat (List Tok)) : List S43 × Int := match r with
  | .ok U => ((T ++ U).map tok43, 0)
  | .error e => ([], (e : Int))
theorem resS_con (T : List Tok) (t : Tok) (r : Except Nat (List Tok)) : resS (T ++ [t]) r = resS T (con t r) := by
  cases r with
  | ok U => simp [resS, con, Except.map]
  | error e => rfl
theorem comm_code (d : Nat) (l : List Nat) : (∃ r, comm d l = .ok r) ∨ ∃ e, comm d l = .error e ∧ e ≠ 0 := by
  have key : ∀ (n d : Nat) (l : List Nat), l.length ≤ n → (∃ r, comm d l = .ok r) ∨ ∃ e, comm d l = .error e ∧ e ≠ 0 := by
    intro n
    induction n with
    | zero => intro d l h; rw [List.eq_nil_of_length_eq_zero (by omega : l.length = 0), comm]; exact .inr ⟨9, rfl, by decide⟩
    | succ n ih =>
      intro d l h
      cases l with
      | nil => rw [comm]; exact .inr ⟨9, rfl, by decide⟩
      | cons c l =>
        simp only [List.length_cons] at h
        have hl : (l.drop 1).length ≤ l.length := by rw [List.length_drop]; omega
        rw [comm]
        split
        · exact ih _ _ (by omega)
        split
        · split
          · exact .inr ⟨9, rfl, by decide⟩
          split
          · exact ih _ _ (by omega)
          · exact .inr ⟨3, rfl, by decide⟩
        split
        · split
          · exact .inr ⟨1, rfl, by decide⟩
          · exact ih _ _ (by omega)
        split
        · split
          · exact .inl ⟨_, rfl⟩
          · exact ih _ _ (by omega)
        split
        · exact ih _ _ (by omega)
        · exact .inr ⟨3, rfl, by decide⟩
  exact key _ d l (Nat.le_refl _)
theorem quo_code (w l : List Nat) : (∃ r, quo w l = .ok r) ∨ ∃ e, quo w l = .error e ∧ e ≠ 0 := by
  have key : ∀ (n : Nat) (w l : List Nat), l.length ≤ n → (∃ r, quo w l = .ok r) ∨ ∃ e, quo w l = .error e ∧ e ≠ 0 := by
    intro n
    induction n with
    | zero => intro d l h; rw [List.eq_nil_of_length_eq_zero (by omega : l.length = 0), quo]; exact .inr ⟨9, rfl, by decide⟩
    | succ n ih =>
      intro d l h
      cases l with
      | nil => rw [quo]; exact .inr ⟨9, rfl, by decide⟩
      | cons c l =>
        simp only [List.length_cons] at h
        have hl : (l.drop 1).length ≤ l.length := by rw [List.length_drop]; omega
        rw [quo]
        split
        · exact ih _ _ (by omega)
        split
        · split
          · exact .inr ⟨9, rfl, by decide⟩
          split
          · exact ih _ _ (by omega)
          · exact .inr ⟨3, rfl, by decide⟩
        split
        · exact .inl ⟨_, rfl⟩
        split
        · exact ih _ _ (by omega)
        · exact .inr ⟨3, rfl, by decide⟩
  exact key _ w l (Nat.le_refl _)
theorem bytes_of_comm {d : Nat} {l r : List Nat} (hb : Bytes l) (h : comm d l = .ok r) : Bytes r := by
  have key : ∀ (n d : Nat) (l r : List Nat), l.length ≤ n → Bytes l → comm d l = .ok r → Bytes r := by
    intro n
    induction n with
    | zero => intro d l r hn _ h; rw [List.eq_nil_of_length_eq_zero (by omega : l.length = 0), comm] at h; cases h
    | succ n ih =>
      intro d l r hn hb h
      cases l with
      | nil => rw [comm] at h; cases h
      | cons c l =>
        simp only [List.length_cons] at hn
        have hl : (l.drop 1).length ≤ l.length := by rw [List.length_drop]; omega
        have hb1 := hb.tail
        have hb2 := hb1.drop 1
        rw [comm] at h
        split at h
        · exact ih _ _ _ (by omega) hb2 h
        split at h
        · split at h
          · cases h
          split at h
          · exact ih _ _ _ (by omega) hb2 h
          · cases h
        split at h
        · split at h
          · cases h
          · exact ih _ _ _ (by omega) hb1 h
        split at h
        · split at h
          · cases h; exact hb1
          · exact ih _ _ _ (by omega) hb1 h
        split at h
        · exact ih _ _ _ (by omega) hb1 h
        · cases h
  exact key _ d l r (Nat.le_refl _) hb h
theorem bytes_of_quo {w l : List Nat} {x : List Nat × List Nat} (hw : Bytes w) (hb : Bytes l) (h : quo w l = .ok x) : Bytes x.1 ∧ Bytes x.2 := by
  have key : ∀ (n : Nat) (w l : List Nat) (x : List Nat × List Nat), l.length ≤ n → Bytes w → Bytes l → quo w l = .ok x → Bytes x.1 ∧ Bytes x.2 := by
    intro n
    induction n with
    | zero => intro w l r hn _ _ h; rw [List.eq_nil_of_length_eq_zero (by omega : l.length = 0), quo] at h; cases h
    | succ n ih =>
      intro w l r hn hw hb h
      cases l with
      | nil => rw [quo] at h; cases h
      | cons c l =>
        simp only [List.length_cons] at hn
        have hl : (l.drop 1).length ≤ l.length := by rw [List.length_drop]; omega
        have hb1 := hb.tail
        have hb2 := hb1.drop 1
        have one : ∀ y, y < 256 → Bytes (w ++ [y]) := fun y hy => hw.append fun z hz => by simp only [List.mem_singleton] at hz; omega
        rw [quo] at h
        split at h
        · exact ih _ _ _ (by omega) hw hb2 h
        split at h
        · split at h
          · cases h
          split at h
          · exact ih _ _ _ (by omega) (one _ (by
              cases l with
              | nil => decide
              | cons y l => exact hb1.head)) hb2 h
          · cases h
        split at h
        · cases h; exact ⟨hw, hb1⟩
        split at h
        · exact ih _ _ _ (by omega) (one _ hb.head) hb1 h
        · cases h
  exact key _ w l x (Nat.le_refl _) hw hb h
theorem scan_loop : ∀ (n : Nat) (l : List Nat) (T : List Tok), l.length ≤ n → Bytes l → T.length + l.length ≤ 100000 →
    Ev (fun k => lex_Scan.l0 k (str l) (T.map tok43)) (resS T (scan l)) := by
  intro n
  induction n with
  | zero =>
    intro l T hn hb hT
    obtain rfl := List.eq_nil_of_length_eq_zero (by omega : l.length = 0)
    rw [scan_nil]
    refine Ev.step (f := fun _ => some (T.map tok43, 0)) (fun k => ?_) (by simpa [resS] using Ev.now (T.map tok43, (0 : Int)))
    conv => lhs; unfold lex_Scan.l0
    rw [if_pos (toList_nil.2 rfl)]
  | succ n ih =>
    intro l T hn hb hT
    cases l with
    | nil =>
      rw [scan_nil]
      refine Ev.step (f := fun _ => some (T.map tok43, 0)) (fun k => ?_) (by simpa [resS] using Ev.now (T.map tok43, (0 : Int)))
      conv => lhs; unfold lex_Scan.l0
      rw [if_pos (toList_nil.2 rfl)]
    | cons c r =>
      simp only [List.length_cons] at hn hT
      have hb1 := hb.tail
      have hdr : (r.drop 1).length ≤ r.length := by rw [List.length_drop]; omega
      have start : ∀ k, lex_Scan.l0 (k + 1) (str (c :: r)) (T.map tok43) = ((lex_next.f k (str (c :: r))).bind fun bt136 => (if bt136.2.2.2 = 0 then (if bt136.1 = 0 then (lex_Scan.l0 k bt136.2.2.1 (T.map tok43)) else (if (T.map tok43).length < 5864062014805 then (lex_Scan.l0 k bt136.2.2.1 (T.map tok43 ++ [(⟨bt136.1, bt136.2.1⟩ : S43)])) else (none))) else (some (([] : List (S43)), bt136.2.2.2)))) := by
        intro k
        conv => lhs; unfold lex_Scan.l0
        rw [if_neg (fun e => by simpa using toList_nil.1 e)]
      have hlim : (T.map tok43).length < 5864062014805 := by rw [List.length_map]; omega
      refine Ev.step start (Ev.bind (next_ev hb (by simp only [List.length_cons]; omega)) ?_)
      rw [scan_cons]
      have token : ∀ (kd : Nat) (u v : List Nat), kd ≠ 0 → v.length < (c :: r).length → Bytes v →
          Ev (fun k => (if ((0 : Int) = 0) then (if ((kd : Int) = 0) then (lex_Scan.l0 k (str v) (T.map tok43)) else (if (T.map tok43).length < 5864062014805 then (lex_Scan.l0 k (str v) (T.map tok43 ++ [(⟨(kd : Int), str u⟩ : S43)])) else (none))) else (some (([] : List (S43)), (0 : Int))))) (resS T (con (kd, u) (scan v))) := by
        intro kd u v hk hv hbv
        simp only [List.length_cons] at hv
        have := ih v (T ++ [(kd, u)]) (by omega) hbv (by simp; omega)
        rw [resS_con, List.map_append] at this
        exact Ev.congr (fun k => (if_pos rfl).trans ((if_neg (by omega)).trans (if_pos hlim))) this
      by_cases hw : white c = true
      · rw [show nxt c r = _ from if_pos hw, if_pos hw]
        exact Ev.congr (fun k => (if_pos rfl).trans (if_pos rfl)) (ih r T (by omega) hb1 (by omega))
      rw [show nxt c r = _ from if_neg hw, if_neg hw]
      by_cases hf : foldAt (c :: r) = true
      · rw [if_pos hf, if_pos hf]
        exact Ev.congr (fun k => (if_pos rfl).trans (if_pos rfl)) (ih (r.drop 1) T (by omega) (hb1.drop 1) (by omega))
      rw [if_neg hf, if_neg hf]
      by_cases h40 : c = 40
      · rw [if_pos h40, if_pos h40]
        rcases comm_code 1 r with ⟨r2, h⟩ | ⟨e, h, he⟩
        · have := comm_shorter 1 r r2 h
          rw [h]
          exact Ev.congr (fun k => (if_pos rfl).trans (if_pos rfl)) (ih r2 T (by omega) (bytes_of_comm hb1 h) (by omega))
        · rw [h]
          exact Ev.congr (fun k => if_neg (show ¬ ((e : Nat) : Int) = 0 by omega)) (Ev.now _)
      rw [if_neg h40, if_neg h40]
      by_cases h34 : c = 34
      · rw [if_pos h34, if_pos h34]
        rcases quo_code [] r with ⟨x, h⟩ | ⟨e, h, he⟩
        · have := quo_shorter [] r x h
          have hx := bytes_of_quo (fun _ h => by cases h) hb1 h
          rw [h]
          exact token 2 x.1 x.2 (by decide) (by simp only [List.length_cons]; omega) hx.2
        · rw [h]
          exact Ev.congr (fun k => if_neg (show ¬ ((e : Nat) : Int) = 0 by omega)) (Ev.now _)
      rw [if_neg h34, if_neg h34]
      by_cases hs : special c = true
      · rw [if_pos hs, if_pos hs]
        exact token 3 [c] r (by decide) (by simp) hb1
      rw [if_neg hs, if_neg hs]
      by_cases ha : atomic c = true
      · rw [if_pos ha, if_pos ha]
        exact token 1 _ _ (by decide) (span_shorter c r ha) (span_bytes hb).2
      · rw [if_neg ha, if_neg ha]
        exact Ev.congr (fun k => if_neg (by decide)) (Ev.now _)
theorem scan_ev (l : List Nat) (hb : Bytes l) (hl : l.length ≤ 100000) : Ev (fun k => lex_Scan.f k (str l)) (resS [] (scan l)) :=
  scan_loop l.length l [] (Nat.le_refl _) hb (by simpa using hl)
end Go.Proofs.Ytldmldhnhfjmlaa.Sem
