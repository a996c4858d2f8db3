/- Numbers as eight bytes, the highest first: the program's and the reference's; the number of eight bytes; and that the order of the bytes, and of their signs, is the numbers'. Condition: numbers of 64 bits. -/
import Derived.Test.YtomdihpleoipkaaSem5
import Derived.Test.YtomdihpleoipkaaPCx3
namespace Go.Proofs.Ytomdihpleoipkaa.Sem
open Go.RowKit Go.Proofs.Ytomdihpleoipkaa.PC Go.Proofs.YtomdihpleoipkaaW.PrintWords Go.Proofs.YtomdihpleoipkaaW.PrintLast Go.Proofs.YtomdihpleoipkaaW.PrintMore Go.Proofs.Ytomdihpleoipkaa.Math
set_option linter.unusedVariables false
set_option linter.unusedSectionVars false

/-- So many bytes of a number, the highest first. -/
def be : Nat → Nat → List Nat
  | 0, _ => []
  | m + 1, n => be m (n / 256) ++ [n % 256]
/-- The number that bytes go on to. -/
def vb : Nat → List Nat → Nat
  | a, [] => a
  | a, c :: l => vb (a * 256 + c) l
theorem be_length (m n : Nat) : (be m n).length = m := by
  induction m generalizing n with
  | zero => rfl
  | succ m ih => simp [be, ih]
theorem be_lt (m n : Nat) : ∀ c ∈ be m n, c < 256 := by
  induction m generalizing n with
  | zero => intro c h; cases h
  | succ m ih =>
    intro c h
    rcases List.mem_append.1 h with h | h
    · exact ih _ c h
    · simp only [List.mem_singleton] at h; omega
theorem vb_append (a : Nat) (l k : List Nat) : vb a (l ++ k) = vb (vb a l) k := by
  induction l generalizing a with
  | nil => rfl
  | cons c l ih => exact ih _
theorem vb_be (m n : Nat) : vb 0 (be m n) = n % 256 ^ m := by
  induction m generalizing n with
  | zero => simp [be, vb, Nat.mod_one]
  | succ m ih =>
    rw [be, vb_append, ih, vb, vb, Nat.pow_succ, Nat.mul_comm (256 ^ m), Nat.mod_mul]
    omega
theorem vb_lt (l : List Nat) (a : Nat) (h : ∀ c ∈ l, c < 256) : vb a l < (a + 1) * 256 ^ l.length := by
  induction l generalizing a with
  | nil => simp [vb]
  | cons c l ih =>
    have h1 := ih (a * 256 + c) (fun x hx => h x (by simp [hx]))
    have hc := h c (by simp)
    refine Nat.lt_of_lt_of_le h1 ?_
    rw [List.length_cons, Nat.pow_succ, Nat.mul_comm (256 ^ l.length) 256, ← Nat.mul_assoc]
    exact Nat.mul_le_mul_right _ (by omega)
theorem vb_ge (l : List Nat) (a : Nat) : a * 256 ^ l.length ≤ vb a l := by
  induction l generalizing a with
  | nil => simp [vb]
  | cons c l ih =>
    refine Nat.le_trans ?_ (ih (a * 256 + c))
    rw [List.length_cons, Nat.pow_succ, Nat.mul_comm (256 ^ l.length) 256, ← Nat.mul_assoc]
    exact Nat.mul_le_mul_right _ (by omega)
theorem be_vb : ∀ (m : Nat) (l : List Nat) (a : Nat), l.length = m → (∀ c ∈ l, c < 256) → be m (vb a l) = l := by
  intro m
  induction m with
  | zero => intro l a h _; rw [List.eq_nil_of_length_eq_zero h]; rfl
  | succ m ih =>
    intro l a hl h
    have hne : l ≠ [] := fun e => by rw [e] at hl; simp at hl
    have e : l.dropLast ++ [l.getLast hne] = l := List.dropLast_concat_getLast hne
    have hd : l.dropLast.length = m := by rw [List.length_dropLast]; omega
    have hc : l.getLast hne < 256 := h _ (List.getLast_mem hne)
    rw [← e, vb_append, vb, vb, be]
    have e1 : (vb a l.dropLast * 256 + l.getLast hne) / 256 = vb a l.dropLast := by omega
    have e2 : (vb a l.dropLast * 256 + l.getLast hne) % 256 = l.getLast hne := by omega
    rw [e1, e2, ih l.dropLast a hd (fun c hc => h c (by rw [← e]; exact List.mem_append.2 (.inl hc)))]

/-! ### The program's and the reference's bytes -/
theorem bytes_eq (n : Nat) : code_Bytes.f (n : Int) = some (str (be 8 n)) := by
  unfold code_Bytes.f str
  congr 2
  simp only [be, List.nil_append, List.cons_append, ints, List.map_cons, List.map_nil, List.cons.injEq, and_true]
  refine ⟨?_, ?_, ?_, ?_, ?_, ?_, ?_, ?_⟩ <;> omega
theorem u64_wrap {x : Int} (h0 : 0 ≤ x) (h1 : x < 18446744073709551616) : IntKind.u64.wrap x = x := by
  simp [IntKind.wrap, IntKind.bits, IntKind.signed]
  omega
theorem refbytes_loop : ∀ (m i n : Nat) (o : List Nat), i + m = 8 → n < 18446744073709551616 → o.length = i → Ev (fun k => bulletinref05_Bytes.l0 k (n : Int) (str o) (i : Int)) (str (be m n ++ o)) := by
  intro m
  induction m with
  | zero =>
    intro i n o hi hn ho
    refine Ev.step (f := fun _ => some (str o)) (fun k => ?_) (Ev.now _)
    simp only [bulletinref05_Bytes.l0]
    rw [if_neg (by omega)]
  | succ m ih =>
    intro i n o hi hn ho
    have := ih (i + 1) (n / 256) ([n % 256] ++ o) (by omega) (by omega) (by simp; omega)
    refine Ev.step (fun k => ?_) (by rw [be, List.append_assoc]; exact this)
    simp only [bulletinref05_Bytes.l0]
    rw [if_pos (by omega), Int.tmod_eq_emod_of_nonneg (by omega), Int.tdiv_eq_ediv_of_nonneg (by omega), u64_wrap (by omega) (by omega)]
    simp only [Option.bind_some]
    rw [show ((n : Int) % 256 % 256) = ((n % 256 : Nat) : Int) by omega, str_one, if_pos (by rw [str_size, str_size]; simp; omega), ← str_append, w64 (by omega) (by omega)]
    rfl
theorem refbytes_ev (n : Nat) (hn : n < 18446744073709551616) : Ev (fun k => bulletinref05_Bytes.f k (n : Int)) (str (be 8 n)) := by
  have := refbytes_loop 8 0 n [] rfl hn rfl
  rwa [List.append_nil] at this

/-! ### The number of bytes -/
theorem wraps_u64 (n : Int) (h0 : 0 ≤ n) (h1 : n < 2 ^ 64) : IntKind.u64.wrap n = n := u64_wrap h0 (by omega)
theorem or_u64 (a c : Nat) (ha : a * 256 < 18446744073709551616) (hc : c < 256) : Go.bits .or .u64 (IntKind.u64.wrap ((a : Int) * 256)) (IntKind.u64.wrap (c : Int)) = ((a * 256 + c : Nat) : Int) := by
  rw [u64_wrap (by omega) (by omega), u64_wrap (by omega) (by omega)]
  rw [bits_join .u64 64 (by decide) wraps_u64 8 ((a : Int) * 256) c (by omega) (by omega) (by omega) (by omega) (by omega) (by omega)]
  simp
theorem number_loop (s : ByteArray) (h8 : s.size = 8) : ∀ (rest pre : List Nat) (a : Nat), nats s = pre ++ rest → a < 256 ^ pre.length →
    Ev (fun k => code_Number.l0 k s (a : Int) (s.size : Int) (pre.length : Int)) (((vb a rest : Nat) : Int), 0) := by
  intro rest
  induction rest with
  | nil =>
    intro pre a hn ha
    have hl : pre.length = s.size := by rw [← nats_length, hn]; simp
    refine Ev.step (f := fun _ => some ((a : Int), 0)) (fun k => ?_) (Ev.now _)
    simp only [code_Number.l0]
    rw [if_neg (by omega)]
  | cons c rest ih =>
    intro pre a hn ha
    have hc : c < 256 := nats_lt s c (by rw [hn]; simp)
    have hl : pre.length < s.size := by rw [← nats_length, hn]; simp
    have hp := Nat.pow_le_pow_right (n := 256) (by decide) (show pre.length ≤ 7 by omega)
    have := ih (pre ++ [c]) (a * 256 + c) (by rw [hn]; simp) (by rw [List.length_append, List.length_singleton, Nat.pow_succ]; omega)
    rw [List.length_append, List.length_singleton] at this
    refine Ev.step (fun k => ?_) this
    simp only [code_Number.l0]
    rw [if_pos (by omega), if_pos (by omega), if_pos (by omega), bt_nats hn, or_u64 _ _ (by omega) hc, w64 (by omega) (by omega)]
    rfl
theorem number_good (s : ByteArray) (h8 : s.size = 8) : Ev (fun k => code_Number.f k s) (((vb 0 (nats s) : Nat) : Int), 0) := by
  have := number_loop s h8 (nats s) [] 0 rfl (by simp)
  refine Ev.congr (fun k => ?_) this
  unfold code_Number.f
  rw [if_pos (by omega)]
  rfl
theorem number_bad (s : ByteArray) (h8 : s.size ≠ 8) : Ev (fun k => code_Number.f k s) (0, 4) :=
  Ev.congr (f := fun _ => some (0, 4)) (fun k => by unfold code_Number.f; rw [if_neg (by omega)]) (Ev.now _)

/-! ### The order -/
def lessN : List Nat → List Nat → Bool
  | _, [] => false
  | [], _ :: _ => true
  | a :: x, b :: y => decide (a < b) || (a == b && lessN x y)
theorem str_toList (l : List Nat) : (str l).toList = l.map UInt8.ofNat := by
  rw [ByteArray.toList_eq, str, strOfNums_data, ints, List.map_map]
  rfl
theorem less_bytes (x y : List Nat) (hx : ∀ c ∈ x, c < 256) (hy : ∀ c ∈ y, c < 256) : Op.bytesLess (str x).toList (str y).toList = lessN x y := by
  rw [str_toList, str_toList]
  induction x generalizing y with
  | nil => cases y <;> rfl
  | cons a x ih =>
    cases y with
    | nil => rfl
    | cons b y =>
      have ha := hx a (by simp)
      have hb := hy b (by simp)
      simp only [List.map_cons, Op.bytesLess, lessN]
      rw [ih y (fun c h => hx c (by simp [h])) (fun c h => hy c (by simp [h]))]
      have e1 : decide (UInt8.ofNat a < UInt8.ofNat b) = decide (a < b) := by
        rw [decide_eq_decide, UInt8.lt_iff_toNat_lt, UInt8.toNat_ofNat', UInt8.toNat_ofNat']
        omega
      have e2 : (UInt8.ofNat a == UInt8.ofNat b) = (a == b) := by
        rw [Bool.eq_iff_iff, beq_iff_eq, beq_iff_eq, ← UInt8.toNat_inj, UInt8.toNat_ofNat', UInt8.toNat_ofNat']
        omega
      rw [e1, e2]
theorem less_vb (x y : List Nat) (a : Nat) (hl : x.length = y.length) (hx : ∀ c ∈ x, c < 256) (hy : ∀ c ∈ y, c < 256) : lessN x y = decide (vb a x < vb a y) := by
  induction x generalizing y a with
  | nil =>
    cases y with
    | nil => simp [lessN]
    | cons b y => simp at hl
  | cons b x ih =>
    cases y with
    | nil => simp at hl
    | cons c y =>
      simp only [List.length_cons, Nat.add_right_cancel_iff] at hl
      have hx' : ∀ c ∈ x, c < 256 := fun z h => hx z (by simp [h])
      have hy' : ∀ c ∈ y, c < 256 := fun z h => hy z (by simp [h])
      show (decide (b < c) || (b == c && lessN x y)) = decide (vb (a * 256 + b) x < vb (a * 256 + c) y)
      rcases Nat.lt_trichotomy b c with h | h | h
      · have h1 := vb_lt x (a * 256 + b) hx'
        have h2 := vb_ge y (a * 256 + c)
        have h3 : (a * 256 + b + 1) * 256 ^ x.length ≤ (a * 256 + c) * 256 ^ y.length := by rw [hl]; exact Nat.mul_le_mul_right _ (by omega)
        rw [decide_eq_true h, decide_eq_true (by omega)]
        rfl
      · subst h
        rw [ih y (a * 256 + b) hl hx' hy']
        simp
      · have h1 := vb_lt y (a * 256 + c) hy'
        have h2 := vb_ge x (a * 256 + b)
        have h3 : (a * 256 + c + 1) * 256 ^ y.length ≤ (a * 256 + b) * 256 ^ x.length := by rw [hl]; exact Nat.mul_le_mul_right _ (by omega)
        rw [decide_eq_false (by omega), decide_eq_false (by omega), beq_eq_false_iff_ne.2 (by omega)]
        rfl
def hexes (l : List Nat) : List Nat := l.flatMap fun c => [hx (c / 16), hx (c % 16)]
theorem hexes_lt (l : List Nat) (h : ∀ c ∈ l, c < 256) : ∀ c ∈ hexes l, c < 256 := by
  intro c hc
  simp only [hexes, List.mem_flatMap] at hc
  obtain ⟨a, ha, hc⟩ := hc
  have := h a ha
  have h1 := hx_lt (a / 16) (by omega)
  have h2 := hx_lt (a % 16) (by omega)
  simp only [List.mem_cons, List.not_mem_nil, or_false] at hc
  omega
theorem less_hexes (x y : List Nat) (hl : x.length = y.length) (h1 : ∀ c ∈ x, c < 256) (h2 : ∀ c ∈ y, c < 256) : lessN (hexes x) (hexes y) = lessN x y := by
  induction x generalizing y with
  | nil =>
    cases y with
    | nil => rfl
    | cons b y => simp at hl
  | cons a x ih =>
    cases y with
    | nil => simp at hl
    | cons b y =>
      simp only [List.length_cons, Nat.add_right_cancel_iff] at hl
      have ha := h1 a (by simp)
      have hb := h2 b (by simp)
      have e := ih y hl (fun c h => h1 c (by simp [h])) (fun c h => h2 c (by simp [h]))
      have mono : ∀ u : Nat, u < 16 → ∀ v : Nat, v < 16 → (decide (hx u < hx v) = decide (u < v) ∧ (hx u == hx v) = (u == v)) := by decide +kernel
      have m1 := mono (a / 16) (by omega) (b / 16) (by omega)
      have m2 := mono (a % 16) (by omega) (b % 16) (by omega)
      simp only [hexes, List.flatMap_cons, List.cons_append, List.nil_append, lessN] at e ⊢
      rw [e, m1.1, m1.2, m2.1, m2.2]
      generalize lessN x y = r
      rcases Nat.lt_trichotomy (a / 16) (b / 16) with h | h | h
      · rw [decide_eq_true h, decide_eq_true (show a < b by omega)]; rfl
      · rw [decide_eq_false (show ¬ a / 16 < b / 16 by omega), beq_iff_eq.2 h]
        rcases Nat.lt_trichotomy (a % 16) (b % 16) with h' | h' | h'
        · rw [decide_eq_true h', decide_eq_true (show a < b by omega)]; rfl
        · rw [decide_eq_false (show ¬ a % 16 < b % 16 by omega), beq_iff_eq.2 h', decide_eq_false (show ¬ a < b by omega), beq_iff_eq.2 (show a = b by omega)]; rfl
        · rw [decide_eq_false (show ¬ a % 16 < b % 16 by omega), beq_eq_false_iff_ne.2 (show a % 16 ≠ b % 16 by omega), decide_eq_false (show ¬ a < b by omega), beq_eq_false_iff_ne.2 (show a ≠ b by omega)]; rfl
      · rw [decide_eq_false (show ¬ a / 16 < b / 16 by omega), beq_eq_false_iff_ne.2 (show a / 16 ≠ b / 16 by omega), decide_eq_false (show ¬ a < b by omega), beq_eq_false_iff_ne.2 (show a ≠ b by omega)]; rfl
theorem enc16 (l : List Nat) (h : ∀ c ∈ l, c < 256) : Enc 4 (bitsB l) (l.flatMap fun c => [c / 16, c % 16]) := by
  induction l with
  | nil => exact .nil
  | cons c l ih =>
    have hc := h c (by simp)
    have h2 := Enc.full (w := 4) _ _ _ (length_bitsN 4 (c / 16)) (Enc.full _ _ _ (length_bitsN 4 (c % 16)) (ih fun x hx => h x (by simp [hx])))
    rw [val_bitsN_lt (by omega), val_bitsN_lt (by omega), ← List.append_assoc, ← halves c hc] at h2
    exact h2
theorem to16_be (l : List Nat) (h : ∀ c ∈ l, c < 256) (hl : l.length ≤ 1000) : Ev (fun k => code_To16.f k (str l)) (str (hexes l)) := by
  have he := enc16 l h
  have h1 := write_ev S16 4 (by decide) (by decide) S16_size (str l) (by rw [str_size]; omega) _ (by rw [nats_str h]; exact he)
  rw [signs16 _ (he.lt (bits_bitsB _))] at h1
  have e : (l.flatMap fun c => [c / 16, c % 16]).map hx = hexes l := by
    rw [List.map_flatMap]
    rfl
  rw [e] at h1
  exact to16_of h1
end Go.Proofs.Ytomdihpleoipkaa.Sem
