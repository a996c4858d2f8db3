/- Bits, groups of bits and bytes, in plain lists of natural numbers: how a list of bits falls into groups, and that this is determined. No condition beyond those that each statement names. -/
import Derived.Test.YtomdihpleoipkaaWWords
namespace Go.Proofs.Ytomdihpleoipkaa.Math

/-- What bits stand for, the greatest first. -/
def val : List Nat → Nat
  | [] => 0
  | b :: bs => b * 2 ^ bs.length + val bs
/-- So many bits of a number, the greatest first. -/
def bitsN : Nat → Nat → List Nat
  | 0, _ => []
  | w + 1, v => (v / 2 ^ w % 2) :: bitsN w v
def bitsB (s : List Nat) : List Nat := s.flatMap (bitsN 8)
def Bits (bs : List Nat) : Prop := ∀ b ∈ bs, b < 2

theorem Bits.nil : Bits [] := fun _ h => by cases h
theorem Bits.append {a b : List Nat} (h : Bits a) (k : Bits b) : Bits (a ++ b) := fun x hx => (List.mem_append.1 hx).elim (h x) (k x)
theorem Bits.left {a b : List Nat} (h : Bits (a ++ b)) : Bits a := fun x hx => h x (List.mem_append.2 (.inl hx))
theorem Bits.right {a b : List Nat} (h : Bits (a ++ b)) : Bits b := fun x hx => h x (List.mem_append.2 (.inr hx))
theorem Bits.take {a : List Nat} (h : Bits a) (n : Nat) : Bits (a.take n) := fun x hx => h x (List.mem_of_mem_take hx)
theorem Bits.drop {a : List Nat} (h : Bits a) (n : Nat) : Bits (a.drop n) := fun x hx => h x (List.mem_of_mem_drop hx)

theorem val_append (xs ys : List Nat) : val (xs ++ ys) = val xs * 2 ^ ys.length + val ys := by
  induction xs with
  | nil => simp [val]
  | cons x xs ih =>
    simp only [List.cons_append, val, ih, List.length_append, Nat.pow_add]
    rw [Nat.add_mul, Nat.mul_assoc]
    omega
theorem val_lt {xs : List Nat} (h : Bits xs) : val xs < 2 ^ xs.length := by
  induction xs with
  | nil => simp [val]
  | cons x xs ih =>
    have h1 := h x (by simp)
    have h2 := ih (fun b hb => h b (by simp [hb]))
    simp only [val, List.length_cons, Nat.pow_succ]
    have : x * 2 ^ xs.length ≤ 1 * 2 ^ xs.length := Nat.mul_le_mul_right _ (by omega)
    omega
theorem val_zeros (n : Nat) : val (List.replicate n 0) = 0 := by
  induction n with
  | zero => rfl
  | succ n ih => simp [List.replicate_succ, val, ih]
theorem length_bitsN (w v : Nat) : (bitsN w v).length = w := by
  induction w with
  | zero => rfl
  | succ w ih => simp [bitsN, ih]
theorem bits_bitsN (w v : Nat) : Bits (bitsN w v) := by
  induction w with
  | zero => exact Bits.nil
  | succ w ih =>
    intro b hb
    simp only [bitsN, List.mem_cons] at hb
    rcases hb with rfl | hb
    · exact Nat.mod_lt _ (by decide)
    · exact ih b hb
theorem bits_bitsB (s : List Nat) : Bits (bitsB s) := by
  intro b hb
  simp only [bitsB, List.mem_flatMap] at hb
  obtain ⟨a, _, hb⟩ := hb
  exact bits_bitsN 8 a b hb
theorem val_bitsN (w v : Nat) : val (bitsN w v) = v % 2 ^ w := by
  induction w with
  | zero => simp [bitsN, val, Nat.mod_one]
  | succ w ih =>
    simp only [bitsN, val, length_bitsN, ih]
    rw [Nat.pow_succ, Nat.mod_mul, Nat.mul_comm]
    omega
theorem val_bitsN_lt {w v : Nat} (h : v < 2 ^ w) : val (bitsN w v) = v := by rw [val_bitsN, Nat.mod_eq_of_lt h]
theorem bitsN_mod (w v u : Nat) (h : w ≤ u) : bitsN w (v % 2 ^ u) = bitsN w v := by
  induction w with
  | zero => rfl
  | succ w ih =>
    have h2 : v % 2 ^ u / 2 ^ w % 2 = v / 2 ^ w % 2 := by
      have e : 2 ^ u = 2 ^ w * (2 * 2 ^ (u - w - 1)) := by
        rw [← Nat.mul_assoc, ← Nat.pow_succ, ← Nat.pow_add]
        congr 1
        omega
      rw [e, Nat.mod_mul_right_div_self, Nat.mod_mul_right_mod]
    simp only [bitsN, ih (by omega), h2]
theorem bitsN_val {xs : List Nat} (h : Bits xs) : bitsN xs.length (val xs) = xs := by
  induction xs with
  | nil => rfl
  | cons x xs ih =>
    have h1 := h x (by simp)
    have h2 : Bits xs := fun b hb => h b (by simp [hb])
    have h3 := val_lt h2
    have hp : 0 < 2 ^ xs.length := Nat.two_pow_pos _
    simp only [List.length_cons, bitsN, val]
    have e1 : (x * 2 ^ xs.length + val xs) / 2 ^ xs.length % 2 = x := by
      rw [Nat.mul_comm, Nat.mul_add_div hp, Nat.div_eq_of_lt h3]
      omega
    have e2 : bitsN xs.length (x * 2 ^ xs.length + val xs) = xs := by
      rw [← bitsN_mod xs.length _ xs.length (Nat.le_refl _), Nat.mul_comm, Nat.mul_add_mod, Nat.mod_eq_of_lt h3]
      exact ih h2
    rw [e1, e2]
theorem val_take {xs : List Nat} (h : Bits xs) (m : Nat) : val (xs.take m) = val xs / 2 ^ (xs.length - m) := by
  have e := val_append (xs.take m) (xs.drop m)
  rw [List.take_append_drop, List.length_drop] at e
  have h2 := val_lt (h.drop m)
  rw [List.length_drop] at h2
  have hp : 0 < 2 ^ (xs.length - m) := Nat.two_pow_pos _
  rw [e, Nat.mul_comm, Nat.mul_add_div hp, Nat.div_eq_of_lt h2]
  omega
theorem val_drop {xs : List Nat} (h : Bits xs) (m : Nat) : val (xs.drop m) = val xs % 2 ^ (xs.length - m) := by
  have e := val_append (xs.take m) (xs.drop m)
  rw [List.take_append_drop, List.length_drop] at e
  have h2 := val_lt (h.drop m)
  rw [List.length_drop] at h2
  rw [e, Nat.mul_comm, Nat.mul_add_mod, Nat.mod_eq_of_lt h2]

/-! ### Groups of w bits, the last filled with zeros -/
inductive Enc (w : Nat) : List Nat → List Nat → Prop
  | nil : Enc w [] []
  | full (c rest ds : List Nat) : c.length = w → Enc w rest ds → Enc w (c ++ rest) (val c :: ds)
  | last (c : List Nat) : 0 < c.length → c.length < w → Enc w c [val c * 2 ^ (w - c.length)]

theorem Enc.total {w : Nat} (hw : 0 < w) : ∀ (n : Nat) (bs : List Nat), bs.length ≤ n → ∃ ds, Enc w bs ds := by
  intro n
  induction n with
  | zero => intro bs h; obtain rfl : bs = [] := List.eq_nil_of_length_eq_zero (by omega); exact ⟨_, .nil⟩
  | succ n ih =>
    intro bs h
    rcases Nat.eq_zero_or_pos bs.length with h0 | h0
    · obtain rfl : bs = [] := List.eq_nil_of_length_eq_zero h0; exact ⟨_, .nil⟩
    · rcases Nat.lt_or_ge bs.length w with h1 | h1
      · exact ⟨_, .last bs h0 h1⟩
      · obtain ⟨ds, hd⟩ := ih (bs.drop w) (by rw [List.length_drop]; omega)
        have := Enc.full (bs.take w) (bs.drop w) ds (by rw [List.length_take]; omega) hd
        rw [List.take_append_drop] at this
        exact ⟨_, this⟩
theorem Enc.inv_nil {w : Nat} (hw : 0 < w) {ds : List Nat} (h : Enc w [] ds) : ds = [] := by
  generalize e : ([] : List Nat) = bs at h
  cases h with
  | nil => rfl
  | full c rest ds hc hd => have := congrArg List.length e; simp only [List.length_nil, List.length_append] at this; omega
  | last c h0 h1 => subst e; simp at h0
theorem Enc.inv_full {w : Nat} (hw : 0 < w) {c rest ds : List Nat} (hc : c.length = w) (h : Enc w (c ++ rest) ds) : ∃ ds', ds = val c :: ds' ∧ Enc w rest ds' := by
  generalize e : c ++ rest = bs at h
  cases h with
  | nil => have := congrArg List.length e; simp only [List.length_nil, List.length_append] at this; omega
  | full c' rest' ds' hc' hd =>
    obtain ⟨rfl, rfl⟩ := List.append_inj e (by omega)
    exact ⟨ds', rfl, hd⟩
  | last c' h0 h1 => have := congrArg List.length e; simp only [List.length_append] at this; omega
theorem Enc.inv_last {w : Nat} {c ds : List Nat} (h0 : 0 < c.length) (h1 : c.length < w) (h : Enc w c ds) : ds = [val c * 2 ^ (w - c.length)] := by
  cases h with
  | nil => simp at h0
  | full c' rest' ds' hc' hd => simp only [List.length_append] at h1; omega
  | last => rfl
theorem Enc.lt {w : Nat} {bs ds : List Nat} (h : Enc w bs ds) (hb : Bits bs) : ∀ d ∈ ds, d < 2 ^ w := by
  induction h with
  | nil => intro d hd; cases hd
  | full c rest ds hc _ ih =>
    intro d hd
    rcases List.mem_cons.1 hd with rfl | hd
    · rw [← hc]; exact val_lt hb.left
    · exact ih hb.right d hd
  | last c h0 h1 =>
    intro d hd
    simp only [List.mem_singleton] at hd
    subst hd
    have := val_lt hb
    have e : 2 ^ w = 2 ^ c.length * 2 ^ (w - c.length) := by rw [← Nat.pow_add]; congr 1; omega
    rw [e]
    exact Nat.mul_lt_mul_of_pos_right this (Nat.two_pow_pos _)
theorem Enc.length_le {w : Nat} (hw : 0 < w) {bs ds : List Nat} (h : Enc w bs ds) : ds.length ≤ bs.length := by
  induction h with
  | nil => exact Nat.le_refl _
  | full c rest ds hc _ ih => simp only [List.length_cons, List.length_append]; omega
  | last c h0 h1 => exact h0
/-- The groups' bits, again: what was there, and zeros. -/
theorem Enc.back {w : Nat} {bs ds : List Nat} (h : Enc w bs ds) (hb : Bits bs) : ∃ z, z < w ∧ ds.flatMap (bitsN w) = bs ++ List.replicate z 0 ∨ ds.flatMap (bitsN w) = bs := by
  induction h with
  | nil => exact ⟨0, .inr rfl⟩
  | full c rest ds hc _ ih =>
    obtain ⟨z, h⟩ := ih hb.right
    have e : bitsN w (val c) = c := by rw [← hc]; exact bitsN_val hb.left
    rcases h with ⟨h1, h2⟩ | h2
    · exact ⟨z, .inl ⟨h1, by rw [List.flatMap_cons, e, h2, List.append_assoc]⟩⟩
    · exact ⟨z, .inr (by rw [List.flatMap_cons, e, h2])⟩
  | last c h0 h1 =>
    refine ⟨w - c.length, .inl ⟨by omega, ?_⟩⟩
    have hz : Bits (c ++ List.replicate (w - c.length) 0) := hb.append fun x hx => by rw [List.eq_of_mem_replicate hx]; decide
    have e := bitsN_val hz
    rw [val_append, val_zeros, List.length_append, List.length_replicate] at e
    rw [show c.length + (w - c.length) = w by omega] at e
    simpa using e

/-! ### Bytes of bits: eight each, what is left over falls away -/
inductive Dec : List Nat → List Nat → Prop
  | small (bs : List Nat) : bs.length < 8 → Dec bs []
  | full (c rest out : List Nat) : c.length = 8 → Dec rest out → Dec (c ++ rest) (val c :: out)
theorem Dec.total : ∀ (n : Nat) (bs : List Nat), bs.length ≤ n → ∃ ds, Dec bs ds := by
  intro n
  induction n with
  | zero => intro bs h; exact ⟨_, .small bs (by omega)⟩
  | succ n ih =>
    intro bs h
    rcases Nat.lt_or_ge bs.length 8 with h1 | h1
    · exact ⟨_, .small bs h1⟩
    · obtain ⟨ds, hd⟩ := ih (bs.drop 8) (by rw [List.length_drop]; omega)
      have := Dec.full (bs.take 8) (bs.drop 8) ds (by rw [List.length_take]; omega) hd
      rw [List.take_append_drop] at this
      exact ⟨_, this⟩
theorem Dec.inv_small {bs ds : List Nat} (h1 : bs.length < 8) (h : Dec bs ds) : ds = [] := by
  cases h with
  | small => rfl
  | full c rest out hc hd => simp only [List.length_append] at h1; omega
theorem Dec.inv_full {c rest ds : List Nat} (hc : c.length = 8) (h : Dec (c ++ rest) ds) : ∃ ds', ds = val c :: ds' ∧ Dec rest ds' := by
  generalize e : c ++ rest = bs at h
  cases h with
  | small _ h => have := congrArg List.length e; simp only [List.length_append] at this; omega
  | full c' rest' ds' hc' hd =>
    obtain ⟨rfl, rfl⟩ := List.append_inj e (by omega)
    exact ⟨ds', rfl, hd⟩
theorem Dec.of_bytes (s : List Nat) (hs : ∀ c ∈ s, c < 256) (z : List Nat) (hz : z.length < 8) : Dec (bitsB s ++ z) s := by
  induction s with
  | nil => exact .small _ hz
  | cons c s ih =>
    have h := Dec.full (bitsN 8 c) (bitsB s ++ z) s (length_bitsN 8 c) (ih fun x hx => hs x (by simp [hx]))
    rw [val_bitsN_lt (w := 8) (hs c (by simp)), ← List.append_assoc] at h
    exact h
theorem Dec.lt {bs ds : List Nat} (h : Dec bs ds) (hb : Bits bs) : ∀ d ∈ ds, d < 256 := by
  induction h with
  | small => intro d hd; cases hd
  | full c rest ds hc _ ih =>
    intro d hd
    rcases List.mem_cons.1 hd with rfl | hd
    · have := val_lt hb.left
      rw [hc] at this
      exact this
    · exact ih hb.right d hd
theorem Dec.length_le {bs ds : List Nat} (h : Dec bs ds) : ds.length ≤ bs.length := by
  induction h with
  | small => simp
  | full c rest ds hc _ ih => simp only [List.length_cons, List.length_append]; omega

end Go.Proofs.Ytomdihpleoipkaa.Math
