/- What the program's kinds of bytes, its folds, comments and quoted texts come to: the document's, on lists. Condition: of at most a hundred thousand bytes. -/
import Derived.Test.YtldmldhnhfjmlaaBase
import Derived.Test.YtldmldhnhfjmlaaPLx3
namespace Go.Proofs.Ytldmldhnhfjmlaa.Sem
open Go.RowKit Go.Proofs.Ytldmldhnhfjmlaa.PL Go.Proofs.YtldmldhnhfjmlaaW.PrintWords Go.Proofs.YtldmldhnhfjmlaaW.PrintLast Go.Proofs.YtldmldhnhfjmlaaW.PrintMore Go.Proofs.Ytldmldhnhfjmlaa.Math Go.Proofs.Ytldmldhnhfjmlaa.Base
set_option linter.unusedVariables false

theorem white_eq : ∀ c : Nat, c < 256 → lex_white.f (c : Int) = some (white c) := by decide +kernel
theorem text_eq : ∀ c : Nat, c < 256 → lex_text.f (c : Int) = some (isText c) := by decide +kernel
theorem atomic_eq : ∀ c : Nat, c < 256 → lex_atomic.f (c : Int) = some (atomic c) := by decide +kernel
theorem fold_eq {l : List Nat} (h : Bytes l) : lex_fold.f (str l) = some (foldAt l) := by
  have b0 : bt (str l) 0 = ((l.getD 0 0 : Nat) : Int) := bt_str h 0
  have b1 : bt (str l) 1 = ((l.getD 1 0 : Nat) : Int) := bt_str h 1
  have b2 : bt (str l) 2 = ((l.getD 2 0 : Nat) : Int) := bt_str h 2
  unfold lex_fold.f
  rw [b0, b1, b2, str_size]
  match l with
  | [] => rfl
  | [_] => rfl
  | [_, _] => rfl
  | a :: b :: c :: r =>
    have hc : c < 256 := h c (by simp)
    simp only [List.getD_cons_zero, List.getD_cons_succ, foldAt]
    rw [white_eq c hc, if_pos (by simp; omega), if_pos (by simp; omega)]
    by_cases ha : a = 13
    · subst ha
      rw [if_pos (show ((13 : Nat) : Int) = 13 from rfl), if_pos (by simp; omega)]
      by_cases hb : b = 10
      · subst hb
        rw [if_pos (show ((10 : Nat) : Int) = 10 from rfl), if_pos (by simp; omega)]
        rfl
      · rw [if_neg (by omega), beq_eq_false_iff_ne.2 hb]
        rfl
    · rw [if_neg (by omega), beq_eq_false_iff_ne.2 ha]
      rfl
theorem escaped_eq {l : List Nat} (h : Bytes l) : lex_escaped.f (str l) = some (if l = [] then 9 else if isText (l.headD 0) = true then 0 else 3) := by
  unfold lex_escaped.f
  match l with
  | [] => rw [if_pos (toList_nil.2 rfl), if_pos rfl]
  | c :: r =>
    have b0 : bt (str (c :: r)) 0 = ((c : Nat) : Int) := bt_str h 0
    rw [if_neg (fun e => by simpa using toList_nil.1 e), str_size, if_pos (by simp), b0, text_eq c h.head]
    simp only [Option.bind_some, List.headD_cons]
    rw [if_neg (c := (c :: r) = ([] : List Nat)) (by simp)]
    by_cases ht : isText c = true
    · rw [if_pos ht]; exact congrArg some (if_pos ht).symm
    · rw [if_neg ht]; exact congrArg some (if_neg ht).symm

/-! ### A comment -/
def resC (r : Except Nat (List Nat)) : ByteArray × Int := match r with
  | .ok l => (str l, 0)
  | .error e => (⟨#[]⟩, (e : Int))
theorem comment_loop {l : List Nat} (hb : Bytes l) (hl : l.length ≤ 100000) : ∀ (n i d : Nat), l.length - i ≤ n → i ≤ l.length + 1 → 1 ≤ d → d ≤ 16 →
    Ev (fun k => lex_comment.l0 k (str l) (d : Int) (i : Int)) (resC (comm d (l.drop i))) := by
  have stop : ∀ (i d : Nat), l.length ≤ i → 1 ≤ d → Ev (fun k => lex_comment.l0 k (str l) (d : Int) (i : Int)) (resC (comm d (l.drop i))) := by
    intro i d h hd
    rw [List.drop_of_length_le h, comm]
    refine Ev.step (f := fun _ => some (⟨#[]⟩, 9)) (fun k => ?_) (Ev.now _)
    conv => lhs; unfold lex_comment.l0
    rw [str_size, if_neg (by omega), if_pos (by omega)]
  intro n
  induction n with
  | zero => intro i d hn hi h1 h16; exact stop i d (by omega) h1
  | succ n ih =>
    intro i d hn hi h1 h16
    rcases Nat.lt_or_ge i l.length with hlt | hge
    · have hc := getD_byte hb i
      have e1 : (str l).extract ((i : Int)).toNat (str l).size = str (l.drop i) := extract_from hb i
      have e2 : (str l).extract (((i + 1 : Nat) : Int)).toNat (str l).size = str (l.drop (i + 1)) := extract_from hb (i + 1)
      have eb := bt_str hb i
      have esc := escaped_eq (hb.drop (i + 1))
      have hd : (l.drop (i + 1)).drop 1 = l.drop (i + 2) := by rw [List.drop_drop]
      have hemp : l.drop (i + 1) = [] ↔ l.length ≤ i + 1 := List.drop_eq_nil_iff
      have start : ∀ k, lex_comment.l0 (k + 1) (str l) (d : Int) (i : Int) = (if foldAt (l.drop i) = true then (lex_comment.l0 k (str l) (d : Int) ((i + 2 : Nat) : Int)) else (if ((l.getD i 0 : Nat) : Int) = 92 then ((lex_escaped.f (str (l.drop (i + 1)))).bind fun t112 => (if t112 = 0 then (lex_comment.l0 k (str l) (d : Int) ((i + 2 : Nat) : Int)) else (some ((⟨#[]⟩ : ByteArray), t112)))) else (if ((l.getD i 0 : Nat) : Int) = 40 then (lex_comment.j1 k (str l) (d : Int) (i : Int) ((l.getD i 0 : Nat) : Int) ((d : Int) == 16)) else (lex_comment.j1 k (str l) (d : Int) (i : Int) ((l.getD i 0 : Nat) : Int) false)))) := by
        intro k
        conv => lhs; unfold lex_comment.l0
        rw [e1, fold_eq (hb.drop i), eb, str_size, w64 (x := (i : Int) + 1) (by omega) (by omega), w64 (x := (i : Int) + 1 + 1) (by omega) (by omega)]
        rw [show ((i : Int) + 1) = ((i + 1 : Nat) : Int) by omega, show (((i + 1 : Nat) : Int) + 1) = ((i + 2 : Nat) : Int) by omega]
        rw [if_pos (by omega), if_pos (by omega), if_pos (by omega)]
        simp only [Option.bind_some]
        rw [← str_size l, e2, str_size, if_pos (c := (0 : Int) ≤ ((i + 1 : Nat) : Int)) (by omega), if_pos (c := ((i + 1 : Nat) : Int) ≤ (l.length : Int)) (by omega)]
      have j1 : ∀ k (b : Bool), lex_comment.j1 (k + 1) (str l) (d : Int) (i : Int) ((l.getD i 0 : Nat) : Int) b = (if b = true then (some ((⟨#[]⟩ : ByteArray), 1)) else (if ((l.getD i 0 : Nat) : Int) = 40 then (lex_comment.l0 k (str l) ((d + 1 : Nat) : Int) ((i + 1 : Nat) : Int)) else (if ((l.getD i 0 : Nat) : Int) = 41 then (lex_comment.j2 k (str l) (d : Int) (i : Int) ((l.getD i 0 : Nat) : Int) ((d : Int) == 1)) else (lex_comment.j2 k (str l) (d : Int) (i : Int) ((l.getD i 0 : Nat) : Int) false)))) := by
        intro k b
        conv => lhs; unfold lex_comment.j1
        rw [w64 (by omega) (by omega), w64 (by omega) (by omega)]
        rfl
      have j2 : ∀ k (b : Bool), lex_comment.j2 (k + 1) (str l) (d : Int) (i : Int) ((l.getD i 0 : Nat) : Int) b = (if b = true then (some (str (l.drop (i + 1)), 0)) else (if ((l.getD i 0 : Nat) : Int) = 41 then (lex_comment.l0 k (str l) ((d - 1 : Nat) : Int) ((i + 1 : Nat) : Int)) else ((lex_text.f ((l.getD i 0 : Nat) : Int)).bind fun t113 => (if t113 = true then (lex_comment.l0 k (str l) (d : Int) ((i + 1 : Nat) : Int)) else (some ((⟨#[]⟩ : ByteArray), 3)))))) := by
        intro k b
        conv => lhs; unfold lex_comment.j2
        rw [w64 (x := (i : Int) + 1) (by omega) (by omega), w64 (x := (d : Int) - 1) (by omega) (by omega), show ((i : Int) + 1) = ((i + 1 : Nat) : Int) by omega, show ((d : Int) - 1) = ((d - 1 : Nat) : Int) by omega, e2, str_size]
        rw [if_pos (c := (0 : Int) ≤ ((i + 1 : Nat) : Int)) (by omega), if_pos (c := ((i + 1 : Nat) : Int) ≤ (l.length : Int)) (by omega), if_neg (c := (0 : Nat) > 0) (by omega)]
      refine Ev.step start ?_
      rw [drop_cons hlt, comm, hd]
      rw [← drop_cons hlt]
      generalize hcc : l.getD i 0 = c at hc j1 j2
      by_cases hf : foldAt (l.drop i) = true
      · rw [if_pos hf]
        exact Ev.congr (fun k => if_pos hf) (ih (i + 2) d (by omega) (by omega) h1 h16)
      rw [if_neg hf]
      refine Ev.congr (fun k => if_neg hf) ?_
      by_cases h92 : c = 92
      · rw [if_pos h92]
        refine Ev.congr (fun k => (if_pos (by omega)).trans (by rw [esc])) ?_
        simp only [Option.bind_some]
        by_cases he : l.drop (i + 1) = []
        · rw [if_pos he, if_pos he]
          exact Ev.congr (fun k => if_neg (by decide)) (Ev.now _)
        · have hle := mt hemp.2 he
          rw [if_neg he, if_neg he]
          by_cases ht : isText ((l.drop (i + 1)).headD 0) = true
          · rw [if_pos ht, if_pos ht]
            exact Ev.congr (fun k => if_pos rfl) (ih (i + 2) d (by omega) (by omega) h1 h16)
          · rw [if_neg ht, if_neg ht]
            exact Ev.congr (fun k => if_neg (by decide)) (Ev.now _)
      rw [if_neg h92]
      refine Ev.congr (fun k => if_neg (by omega)) ?_
      by_cases h40 : c = 40
      · rw [if_pos h40]
        refine Ev.congr (fun k => if_pos (by omega)) (Ev.step (fun k => j1 k _) ?_)
        by_cases hd16 : d = 16
        · rw [if_pos hd16]
          exact Ev.congr (fun k => if_pos (by rw [beq_iff_eq]; omega)) (Ev.now _)
        · rw [if_neg hd16]
          exact Ev.congr (fun k => (if_neg (by rw [beq_iff_eq]; omega)).trans (if_pos (by omega))) (ih (i + 1) (d + 1) (by omega) (by omega) (by omega) (by omega))
      rw [if_neg h40]
      refine Ev.congr (fun k => if_neg (by omega)) (Ev.step (fun k => j1 k _) ?_)
      refine Ev.congr (fun k => (if_neg (by decide)).trans (if_neg (by omega))) ?_
      by_cases h41 : c = 41
      · rw [if_pos h41]
        refine Ev.congr (fun k => if_pos (by omega)) (Ev.step (fun k => j2 k _) ?_)
        by_cases hd1 : d = 1
        · rw [if_pos hd1]
          exact Ev.congr (fun k => if_pos (by rw [beq_iff_eq]; omega)) (Ev.now _)
        · rw [if_neg hd1]
          exact Ev.congr (fun k => (if_neg (by rw [beq_iff_eq]; omega)).trans (if_pos (by omega))) (ih (i + 1) (d - 1) (by omega) (by omega) (by omega) (by omega))
      rw [if_neg h41]
      refine Ev.congr (fun k => if_neg (by omega)) (Ev.step (fun k => j2 k _) ?_)
      refine Ev.congr (fun k => (if_neg (by decide)).trans ((if_neg (by omega)).trans (by rw [text_eq c hc]))) ?_
      simp only [Option.bind_some]
      by_cases ht : isText c = true
      · rw [if_pos ht]
        exact Ev.congr (fun k => if_pos ht) (ih (i + 1) d (by omega) (by omega) h1 h16)
      · rw [if_neg ht]
        exact Ev.congr (fun k => if_neg ht) (Ev.now _)
    · exact stop i d hge h1
end Go.Proofs.Ytldmldhnhfjmlaa.Sem
