/- What the program writes, and the reference's words: quoted texts and rows of tokens, on lists. Conditions: texts of at most a hundred thousand bytes, and as many tokens. -/
import Derived.Test.YtldmldhnhfjmlaaSemD
import Derived.Test.YtldmldhnhfjmlaaPLx10
namespace Go.Proofs.Ytldmldhnhfjmlaa.Sem
open Go.RowKit Go.Proofs.Ytldmldhnhfjmlaa.PL Go.Proofs.YtldmldhnhfjmlaaW.PrintWords Go.Proofs.YtldmldhnhfjmlaaW.PrintLast Go.Proofs.YtldmldhnhfjmlaaW.PrintMore Go.Proofs.Ytldmldhnhfjmlaa.Math Go.Proofs.Ytldmldhnhfjmlaa.Base
set_option linter.unusedVariables false
set_option linter.unusedSectionVars false

def esc (c : Nat) : List Nat := if c = 34 ∨ c = 92 then [92, c] else if isText c = true then [c] else [32]
def quoteL (w : List Nat) : List Nat := 34 :: (w.flatMap esc ++ [34])
theorem esc_length (c : Nat) : (esc c).length ≤ 2 := by
  unfold esc
  split
  · exact Nat.le_refl _
  · split <;> simp
theorem esc_bytes {c : Nat} (h : c < 256) : Bytes (esc c) := by
  unfold esc
  intro x hx
  split at hx
  · simp only [List.mem_cons, List.not_mem_nil, or_false] at hx; omega
  · split at hx
    · simp only [List.mem_cons, List.not_mem_nil, or_false] at hx; omega
    · simp only [List.mem_cons, List.not_mem_nil, or_false] at hx; omega
theorem flat_length (w : List Nat) : (w.flatMap esc).length ≤ 2 * w.length := by
  induction w with
  | nil => exact Nat.le_refl _
  | cons c w ih =>
    have := esc_length c
    simp only [List.flatMap_cons, List.length_append, List.length_cons]
    omega
theorem quoteL_length (w : List Nat) : (quoteL w).length ≤ 2 * w.length + 2 := by
  have := flat_length w
  simp only [quoteL, List.length_cons, List.length_append, List.length_nil]
  omega
theorem quoteL_bytes {w : List Nat} (h : Bytes w) : Bytes (quoteL w) := by
  intro x hx
  simp only [quoteL, List.mem_cons, List.mem_append, List.mem_flatMap, List.not_mem_nil, or_false] at hx
  rcases hx with rfl | ⟨c, hc, hx⟩ | rfl
  · decide
  · exact esc_bytes (h c hc) x hx
  · decide
theorem bytesOf_str {l : List Nat} (h : Bytes l) : bytesOf (str l) = ints l := by
  have : bytesOf (str l) = ints (nats (str l)) := by unfold bytesOf ints nats; rw [List.map_map]; rfl
  rw [this, nats_str h]

section
variable {l : List Nat} (hb : Bytes l) (hl : l.length ≤ 100000)
include hb hl
theorem lexq_loop : ∀ (n i : Nat) (o : List Nat), l.length - i ≤ n → i ≤ l.length → o.length ≤ 1 + 2 * i →
    Ev (fun k => lex_Quote.l0 k (str l) (ints o) (l.length : Int) (i : Int)) (str (o ++ ((l.drop i).flatMap esc ++ [34]))) := by
  have stop : ∀ (i : Nat) (o : List Nat), l.length ≤ i → i ≤ l.length → o.length ≤ 1 + 2 * i → Ev (fun k => lex_Quote.l0 k (str l) (ints o) (l.length : Int) (i : Int)) (str (o ++ ((l.drop i).flatMap esc ++ [34]))) := by
    intro i o hi hi2 ho
    rw [List.drop_of_length_le hi]
    refine Ev.step (f := fun _ => some _) (fun k => ?_) (Ev.now _)
    conv => lhs; unfold lex_Quote.l0
    rw [if_neg (by omega), if_pos (by rw [ints_length]; omega)]
    exact congrArg (fun x => some (strOfNums x)) (ints_append o [34]).symm
  intro n
  induction n with
  | zero => intro i o hn hi ho; exact stop i o (by omega) hi ho
  | succ n ih =>
    intro i o hn hi ho
    rcases Nat.lt_or_ge i l.length with h | h
    · have hc := getD_byte hb i
      refine Ev.step (f := fun k => lex_Quote.j1 k (str l) (ints o) ((l.getD i 0 : Nat) : Int) (l.length : Int) (i : Int) (decide (l.getD i 0 = 34 ∨ l.getD i 0 = 92))) (fun k => ?_) ?_
      · conv => lhs; unfold lex_Quote.l0
        rw [bt_str hb i, str_size, if_pos (by omega), if_pos (by omega), if_pos (by omega)]
        by_cases h34 : l.getD i 0 = 34
        · rw [if_pos (by omega), decide_eq_true (.inl h34)]
        · rw [if_neg (by omega)]
          by_cases h92 : l.getD i 0 = 92
          · rw [decide_eq_true (.inr h92), beq_iff_eq.2 (show ((l.getD i 0 : Nat) : Int) = 92 by omega)]
          · rw [decide_eq_false (by omega), beq_eq_false_iff_ne.2 (show ((l.getD i 0 : Nat) : Int) ≠ 92 by omega)]
      refine Ev.step (f := fun k => lex_Quote.l0 k (str l) (ints (o ++ esc (l.getD i 0))) (l.length : Int) ((i + 1 : Nat) : Int)) (fun k => ?_) ?_
      · conv => lhs; unfold lex_Quote.j1
        rw [w64 (by omega) (by omega), text_eq _ hc]
        simp only [Option.bind_some, List.length_append, ints_length, List.length_singleton]
        rw [ints_append]
        unfold esc
        by_cases hx : l.getD i 0 = 34 ∨ l.getD i 0 = 92
        · rw [if_pos (decide_eq_true hx), if_pos hx, if_pos (by omega), if_pos (by omega), List.append_assoc]
          rfl
        · rw [if_neg (by rw [decide_eq_false hx]; decide), if_neg hx]
          by_cases ht : isText (l.getD i 0) = true
          · rw [if_pos ht, if_pos ht, if_pos (by omega)]
            rfl
          · rw [if_neg ht, if_neg ht, if_pos (by omega)]
            rfl
      · have := esc_length (l.getD i 0)
        have := ih (i + 1) (o ++ esc (l.getD i 0)) (by omega) (by omega) (by rw [List.length_append]; omega)
        rw [drop_cons h, List.flatMap_cons]
        simpa only [List.append_assoc] using this
    · exact stop i o h hi ho
theorem lexq_ev : Ev (fun k => lex_Quote.f k (str l)) (str (quoteL l)) := by
  have := lexq_loop hb hl l.length 0 [34] (by omega) (by omega) (by simp)
  refine Ev.congr (fun k => ?_) this
  unfold lex_Quote.f
  rw [str_size]
  rfl
theorem refq_loop : ∀ (n i : Nat) (o : List Nat), l.length - i ≤ n → i ≤ l.length → o.length ≤ 2 * i →
    Ev (fun k => bulletinref12_Quote.l0 k (str l) (str o) (i : Int)) (str (34 :: (o ++ ((l.drop i).flatMap esc ++ [34])))) := by
  have stop : ∀ (i : Nat) (o : List Nat), l.length ≤ i → i ≤ l.length → o.length ≤ 2 * i → Ev (fun k => bulletinref12_Quote.l0 k (str l) (str o) (i : Int)) (str (34 :: (o ++ ((l.drop i).flatMap esc ++ [34])))) := by
    intro i o hi hi2 ho
    rw [List.drop_of_length_le hi]
    refine Ev.step (f := fun _ => some _) (fun k => ?_) (Ev.now _)
    conv => lhs; unfold bulletinref12_Quote.l0
    rw [show (⟨#[34]⟩ : ByteArray) = str [34] from rfl, ← str_append, ← str_append, str_size, str_size, str_size]
    rw [if_neg (by omega), if_pos (by omega), if_pos (by simp only [List.length_append, List.length_singleton]; omega)]
    rfl
  intro n
  induction n with
  | zero => intro i o hn hi ho; exact stop i o (by omega) hi ho
  | succ n ih =>
    intro i o hn hi ho
    rcases Nat.lt_or_ge i l.length with h | h
    · have hc := getD_byte hb i
      have e1 : (str l).extract ((i : Int)).toNat (((i + 1 : Nat) : Int)).toNat = str [l.getD i 0] := extract_one hb i h
      refine Ev.step (f := fun k => bulletinref12_Quote.j1 k (str l) (str o) (i : Int) (str [l.getD i 0]) (decide (l.getD i 0 = 34 ∨ l.getD i 0 = 92))) (fun k => ?_) ?_
      · conv => lhs; unfold bulletinref12_Quote.l0
        rw [w64 (x := (i : Int) + 1) (by omega) (by omega), show ((i : Int) + 1) = ((i + 1 : Nat) : Int) by omega, e1, bt_str hb i, str_size, if_pos (by omega), if_pos (by omega), if_pos (by omega), if_pos (by omega)]
        by_cases h34 : l.getD i 0 = 34
        · rw [if_pos (by omega), decide_eq_true (.inl h34)]
        · rw [if_neg (by omega)]
          by_cases h92 : l.getD i 0 = 92
          · rw [decide_eq_true (.inr h92), beq_iff_eq.2 (show ((l.getD i 0 : Nat) : Int) = 92 by omega)]
          · rw [decide_eq_false (by omega), beq_eq_false_iff_ne.2 (show ((l.getD i 0 : Nat) : Int) ≠ 92 by omega)]
      refine Ev.step (f := fun k => bulletinref12_Quote.l0 k (str l) (str (o ++ esc (l.getD i 0))) ((i + 1 : Nat) : Int)) (fun k => ?_) ?_
      · conv => lhs; unfold bulletinref12_Quote.j1
        rw [w64 (by omega) (by omega), bt_str hb i, rtext_eq _ hc, str_append, show (⟨#[92]⟩ : ByteArray) = str [92] from rfl, show (⟨#[32]⟩ : ByteArray) = str [32] from rfl, ← str_append [92]]
        simp only [Option.bind_some, str_size, List.length_append, List.length_singleton]
        unfold esc
        by_cases hx : l.getD i 0 = 34 ∨ l.getD i 0 = 92
        · have ht : isText (l.getD i 0) = true := by
            rcases hx with h | h <;> rw [h] <;> rfl
          rw [if_pos (decide_eq_true hx), if_pos hx, if_pos (by omega), if_pos (by omega), if_pos (by omega), if_pos ht, if_pos (by omega)]
          rfl
        · rw [if_neg (by rw [decide_eq_false hx]; decide), if_neg hx]
          rw [if_pos (c := (0 : Int) ≤ (i : Int)) (by omega), if_pos (c := (i : Int) < (l.length : Int)) (by omega)]
          by_cases ht : isText (l.getD i 0) = true
          · rw [if_pos ht, if_pos ht, if_pos (by omega)]
            rfl
          · rw [if_neg ht, if_neg ht, if_pos (by omega)]
            rfl
      · have := esc_length (l.getD i 0)
        have := ih (i + 1) (o ++ esc (l.getD i 0)) (by omega) (by omega) (by rw [List.length_append]; omega)
        rw [drop_cons h, List.flatMap_cons]
        simpa only [List.append_assoc] using this
    · exact stop i o h hi ho
theorem refq_ev : Ev (fun k => bulletinref12_Quote.f k (str l)) (str (quoteL l)) :=
  refq_loop hb hl l.length 0 [] (by omega) (by omega) (by simp)

/-! ### Is it an atom? -/
def isAtom (l : List Nat) : Bool := decide (l ≠ []) && l.all atomic
theorem lexa_ev : Ev (fun k => lex_IsAtom.f k (str l)) (isAtom l) := by
  have key : ∀ (n i : Nat), l.length - i ≤ n → i ≤ l.length → Ev (fun k => lex_IsAtom.l0 k (str l) (l.length : Int) (i : Int)) ((l.drop i).all atomic && decide (l ≠ [])) := by
    have stop : ∀ (i : Nat), l.length ≤ i → Ev (fun k => lex_IsAtom.l0 k (str l) (l.length : Int) (i : Int)) ((l.drop i).all atomic && decide (l ≠ [])) := by
      intro i hi
      rw [List.drop_of_length_le hi]
      refine Ev.step (f := fun _ => some _) (fun k => ?_) (Ev.now _)
      conv => lhs; unfold lex_IsAtom.l0
      rw [if_neg (by omega), List.all_nil, Bool.true_and]
      by_cases hn : l = []
      · rw [decide_eq_false (by simpa using hn), hn]
        exact congrArg some (bne_eq_false_iff_eq.2 (toList_nil.2 rfl))
      · rw [decide_eq_true (by simpa using hn)]
        exact congrArg some (bne_iff_ne.2 (fun e => hn (toList_nil.1 e)))
    intro n
    induction n with
    | zero => intro i hn hi; exact stop i (by omega)
    | succ n ih =>
      intro i hn hi
      rcases Nat.lt_or_ge i l.length with h | h
      · refine Ev.step (f := fun k => if atomic (l.getD i 0) = true then lex_IsAtom.l0 k (str l) (l.length : Int) ((i + 1 : Nat) : Int) else some false) (fun k => ?_) ?_
        · conv => lhs; unfold lex_IsAtom.l0
          rw [bt_str hb i, str_size, if_pos (by omega), if_pos (by omega), if_pos (by omega), atomic_eq _ (getD_byte hb i), w64 (by omega) (by omega)]
          rfl
        · rw [drop_cons h, List.all_cons]
          by_cases ha : atomic (l.getD i 0) = true
          · rw [ha, Bool.true_and]
            exact ih (i + 1) (by omega) (by omega)
          · rw [show atomic (l.getD i 0) = false by simpa using ha, Bool.false_and, Bool.false_and]
            exact Ev.now _
      · exact stop i h
  have := key l.length 0 (by omega) (by omega)
  rw [List.drop_zero, Bool.and_comm] at this
  refine Ev.congr (fun k => ?_) this
  unfold lex_IsAtom.f
  rw [str_size]
  rfl
theorem refa_ev : Ev (fun k => bulletinref12_IsAtom.f k (str l)) (isAtom l) := by
  have key : ∀ (n i : Nat), l.length - i ≤ n → i ≤ l.length → Ev (fun k => bulletinref12_IsAtom.l0 k (str l) (i : Int)) ((l.drop i).all atomic) := by
    have stop : ∀ (i : Nat), l.length ≤ i → Ev (fun k => bulletinref12_IsAtom.l0 k (str l) (i : Int)) ((l.drop i).all atomic) := by
      intro i hi
      rw [List.drop_of_length_le hi]
      refine Ev.step (f := fun _ => some _) (fun k => ?_) (Ev.now _)
      conv => lhs; unfold bulletinref12_IsAtom.l0
      rw [str_size, if_neg (by omega)]
      rfl
    intro n
    induction n with
    | zero => intro i hn hi; exact stop i (by omega)
    | succ n ih =>
      intro i hn hi
      rcases Nat.lt_or_ge i l.length with h | h
      · refine Ev.step (f := fun k => (bulletinref12_atomic.f k ((l.getD i 0 : Nat) : Int)).bind fun t => if t = true then bulletinref12_IsAtom.l0 k (str l) ((i + 1 : Nat) : Int) else some false) (fun k => ?_) (Ev.bind (ratomic_ev (getD_byte hb i)) ?_)
        · conv => lhs; unfold bulletinref12_IsAtom.l0
          rw [bt_str hb i, str_size, if_pos (by omega), if_pos (by omega), w64 (by omega) (by omega)]
          rfl
        · rw [drop_cons h, List.all_cons]
          by_cases ha : atomic (l.getD i 0) = true
          · rw [ha, Bool.true_and]
            exact ih (i + 1) (by omega) (by omega)
          · rw [show atomic (l.getD i 0) = false by simpa using ha, Bool.false_and]
            exact Ev.now _
      · exact stop i h
  have := key l.length 0 (by omega) (by omega)
  rw [List.drop_zero] at this
  unfold isAtom
  by_cases hn : l = []
  · rw [decide_eq_false (by simpa using hn), Bool.false_and]
    exact Ev.congr (fun k => if_pos (toList_nil.2 hn)) (Ev.now _)
  · rw [decide_eq_true (by simpa using hn), Bool.true_and]
    exact Ev.congr (fun k => if_neg (fun e => hn (toList_nil.1 e))) this
def wordL (l : List Nat) : List Nat := if isAtom l = true then l else quoteL l
theorem lexw_ev : Ev (fun k => lex_Word.f k (str l)) (str (wordL l)) := by
  refine Ev.bind (g := fun k => lex_IsAtom.f k (str l)) (lexa_ev hb hl) ?_
  unfold wordL
  by_cases h : isAtom l = true
  · rw [if_pos h]; exact Ev.congr (fun k => if_pos h) (Ev.now _)
  · rw [if_neg h]; exact Ev.congr (fun k => if_neg h) (Ev.bind (lexq_ev hb hl) (Ev.now _))
theorem refw_ev : Ev (fun k => bulletinref12_Word.f k (str l)) (str (wordL l)) := by
  refine Ev.bind (g := fun k => bulletinref12_IsAtom.f k (str l)) (refa_ev hb hl) ?_
  unfold wordL
  by_cases h : isAtom l = true
  · rw [if_pos h]; exact Ev.congr (fun k => if_pos h) (Ev.now _)
  · rw [if_neg h]; exact Ev.congr (fun k => if_neg h) (Ev.bind (refq_ev hb hl) (Ev.now _))
end

/-! ### Rows of tokens -/
abbrev Gk := Int × List Nat
def g43 (g : Gk) : S43 := ⟨g.1, str g.2⟩
def g37 (g : Gk) : S37 := ⟨g.1, str g.2⟩
def shown (g : Gk) : List Nat := if g.1 = 2 then quoteL g.2 else g.2
def printL : Bool → List Gk → List Nat
  | _, [] => []
  | b, g :: G => (if b = true ∧ g.1 ≠ 3 then [32] else []) ++ (shown g ++ printL (decide (g.1 ≠ 3)) G)
theorem grd43 (T : List Gk) (i : Nat) : rd_T43 (T.map g43) (i : Int) = g43 (T.getD i (0, [])) := by
  unfold rd_T43
  rw [Int.toNat_natCast, List.getD_eq_getElem?_getD, List.getD_eq_getElem?_getD, List.getElem?_map]
  cases T[i]? <;> rfl
theorem grd37 (T : List Gk) (i : Nat) : rd_T37 (T.map g37) (i : Int) = g37 (T.getD i (0, [])) := by
  unfold rd_T37
  rw [Int.toNat_natCast, List.getD_eq_getElem?_getD, List.getD_eq_getElem?_getD, List.getElem?_map]
  cases T[i]? <;> rfl
def Fits (G : List Gk) : Prop := G.length ≤ 100000 ∧ ∀ g ∈ G, Bytes g.2 ∧ g.2.length ≤ 100000
theorem gdrop {G : List Gk} {i : Nat} (hi : i < G.length) : G.drop i = G.getD i (0, []) :: G.drop (i + 1) := by
  rw [List.drop_eq_getElem_cons hi, List.getD_eq_getElem?_getD, List.getElem?_eq_getElem hi]
  rfl
theorem Fits.at {G : List Gk} (h : Fits G) {i : Nat} (hi : i < G.length) : Bytes (G.getD i (0, [])).2 ∧ (G.getD i (0, [])).2.length ≤ 100000 := by
  rw [List.getD_eq_getElem?_getD, List.getElem?_eq_getElem hi]
  exact h.2 _ (List.getElem_mem _)
theorem shown_bytes {g : Gk} (h : Bytes g.2) : Bytes (shown g) := by
  unfold shown
  split
  · exact quoteL_bytes h
  · exact h
theorem shown_length (g : Gk) : (shown g).length ≤ 2 * g.2.length + 2 := by
  unfold shown
  split
  · exact quoteL_length _
  · omega
/-- Whether a blank may stand ahead of this token. -/
def prev (G : List Gk) (i : Nat) : Bool := decide (0 < i ∧ (G.getD (i - 1) (0, [])).1 ≠ 3)
def blank (b : Bool) : List Nat := if b = true then [32] else []
theorem blank_length (b : Bool) : (blank b).length ≤ 1 := by cases b <;> simp [blank]
theorem prev_next (G : List Gk) (i : Nat) : prev G (i + 1) = decide ((G.getD i (0, [])).1 ≠ 3) := by
  unfold prev
  rw [Nat.add_sub_cancel]
  simp
theorem lexp_ev {G : List Gk} (hG : Fits G) : Ev (fun k => lex_Print.f k (G.map g43)) (str (printL false G)) := by
  have hlen := hG.1
  have key : ∀ (n i : Nat) (o : List Nat), G.length - i ≤ n → i ≤ G.length → o.length ≤ i * 300000 →
      Ev (fun k => lex_Print.l0 k (G.map g43) (ints o) (G.map g43) (G.length : Int) (i : Int)) (str (o ++ printL (prev G i) (G.drop i))) := by
    have stop : ∀ (i : Nat) (o : List Nat), G.length ≤ i → Ev (fun k => lex_Print.l0 k (G.map g43) (ints o) (G.map g43) (G.length : Int) (i : Int)) (str (o ++ printL (prev G i) (G.drop i))) := by
      intro i o hi
      rw [List.drop_of_length_le hi]
      refine Ev.step (f := fun _ => some _) (fun k => ?_) (Ev.now _)
      conv => lhs; unfold lex_Print.l0
      rw [if_neg (by omega), printL, List.append_nil]
      rfl
    intro n
    induction n with
    | zero => intro i o hn hi ho; exact stop i o (by omega)
    | succ n ih =>
      intro i o hn hi ho
      rcases Nat.lt_or_ge i G.length with h | h
      · have hg := hG.at h
        have hs := shown_length (G.getD i (0, []))
        have hbl := blank_length (prev G i && decide ((G.getD i (0, [])).1 ≠ 3))
        refine Ev.step (f := fun k => lex_Print.j1 k (G.map g43) (ints o) (G.map g43) (G.length : Int) (i : Int) (prev G i && decide ((G.getD i (0, [])).1 ≠ 3)) (G.getD i (0, [])).1 (str (G.getD i (0, [])).2)) (fun k => ?_) ?_
        · conv => lhs; unfold lex_Print.l0
          rw [List.length_map, grd43, if_pos (by omega), if_pos (by omega), if_pos (by omega)]
          unfold prev
          by_cases h0 : i = 0
          · rw [if_neg (by omega), decide_eq_false (by omega)]
            rfl
          · rw [if_pos (by omega), w64 (x := (i : Int) - 1) (by omega) (by omega), show ((i : Int) - 1) = ((i - 1 : Nat) : Int) by omega, grd43, if_pos (c := (0 : Int) ≤ ((i - 1 : Nat) : Int)) (by omega), if_pos (c := ((i - 1 : Nat) : Int) < (G.length : Int)) (by omega)]
            by_cases h3 : (G.getD i (0, [])).1 = 3
            · rw [if_pos (show (g43 (G.getD i (0, []))).f0 = 3 from h3), decide_eq_false (p := (G.getD i (0, [])).1 ≠ 3) (by simpa using h3), Bool.and_false]
              rfl
            · rw [if_neg (show ¬ (g43 (G.getD i (0, []))).f0 = 3 from h3), decide_eq_true (p := (G.getD i (0, [])).1 ≠ 3) h3, Bool.and_true]
              by_cases hp : (G.getD (i - 1) (0, [])).1 = 3
              · rw [decide_eq_false (by omega), show ((g43 (G.getD (i - 1) (0, []))).f0 != 3) = false from bne_eq_false_iff_eq.2 hp]
                rfl
              · rw [decide_eq_true (by omega), show ((g43 (G.getD (i - 1) (0, []))).f0 != 3) = true from bne_iff_ne.2 hp]
                rfl
        generalize hbq : (prev G i && decide ((G.getD i (0, [])).1 ≠ 3)) = b at hbl ⊢
        have next := ih (i + 1) (o ++ (blank b ++ shown (G.getD i (0, [])))) (by omega) (by omega) (by simp only [List.length_append]; omega)
        have hfin : str (o ++ (blank b ++ shown (G.getD i (0, []))) ++ printL (prev G (i + 1)) (G.drop (i + 1))) = str (o ++ printL (prev G i) (G.drop i)) := by
          rw [gdrop h, printL, prev_next, ← hbq]
          unfold blank
          simp only [Bool.and_eq_true, decide_eq_true_eq, List.append_assoc]
        rw [hfin] at next
        have eb : ints o ++ (if b = true then [32] else []) = ints (o ++ blank b) := by
          rw [ints_append]
          cases b <;> rfl
        by_cases h2 : (G.getD i (0, [])).1 = 2
        · have hq := lexq_ev hg.1 hg.2
          have hql := quoteL_length (G.getD i (0, [])).2
          have es : shown (G.getD i (0, [])) = quoteL (G.getD i (0, [])).2 := if_pos h2
          rw [es] at next
          refine Ev.step (f := fun k => (lex_Quote.f k (str (G.getD i (0, [])).2)).bind fun t => if (ints (o ++ blank b)).length + t.size < 140737488355328 then lex_Print.l0 k (G.map g43) (ints (o ++ blank b) ++ bytesOf t) (G.map g43) (G.length : Int) ((i + 1 : Nat) : Int) else none) (fun k => ?_) (Ev.bind hq ?_)
          · conv => lhs; unfold lex_Print.j1
            rw [w64 (by omega) (by omega), ← eb]
            cases b with
            | true => rw [if_pos rfl, if_pos (show (ints o).length < 140737488355328 by rw [ints_length]; omega), if_pos (rfl : true = true)]; simp only [Option.bind_some]; rw [if_pos h2]; rfl
            | false => rw [if_neg (by decide), if_pos h2, if_neg (by decide), List.append_nil]; rfl
          · refine Ev.congr (fun k => if_pos (by rw [ints_length, str_size, List.length_append]; omega)) ?_
            rw [bytesOf_str (quoteL_bytes hg.1), ← ints_append, List.append_assoc]
            exact next
        · have es : shown (G.getD i (0, [])) = (G.getD i (0, [])).2 := if_neg h2
          rw [es] at next
          refine Ev.step (f := fun k => lex_Print.l0 k (G.map g43) (ints (o ++ blank b) ++ bytesOf (str (G.getD i (0, [])).2)) (G.map g43) (G.length : Int) ((i + 1 : Nat) : Int)) (fun k => ?_) ?_
          · conv => lhs; unfold lex_Print.j1
            rw [w64 (by omega) (by omega), ← eb, str_size]
            cases b with
            | true =>
              rw [if_pos rfl, if_pos (show (ints o).length < 140737488355328 by rw [ints_length]; omega), if_pos (rfl : true = true)]
              simp only [Option.bind_some, List.length_append, ints_length, List.length_singleton]
              rw [if_neg h2, if_pos (by omega)]
              rfl
            | false =>
              rw [if_neg (show ¬ (false = true) by decide), if_neg h2, if_neg (show ¬ (false = true) by decide), List.append_nil, ints_length, if_pos (by omega)]
              rfl
          · rw [bytesOf_str hg.1, ← ints_append, List.append_assoc]
            exact next
      · exact stop i o h
  have := key G.length 0 [] (by omega) (by omega) (by simp)
  rw [List.drop_zero] at this
  refine Ev.congr (fun k => ?_) this
  unfold lex_Print.f
  rw [List.length_map]
  rfl
end Go.Proofs.Ytldmldhnhfjmlaa.Sem
