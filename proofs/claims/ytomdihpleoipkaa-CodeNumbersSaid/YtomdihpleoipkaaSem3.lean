/- What the reference's To32, To16 and Of come to: the same groups of bits, the same signs, the same bytes. Condition: of at most a million bytes, or a hundred thousand signs. -/
import Derived.Test.YtomdihpleoipkaaSem2
import Derived.Test.YtomdihpleoipkaaPCx1
import Derived.Test.YtomdihpleoipkaaPCx2
namespace Go.Proofs.Ytomdihpleoipkaa.Sem
open Go.RowKit Go.Proofs.Ytomdihpleoipkaa.PC Go.Proofs.YtomdihpleoipkaaW.PrintWords Go.Proofs.YtomdihpleoipkaaW.PrintLast Go.Proofs.YtomdihpleoipkaaW.PrintMore Go.Proofs.Ytomdihpleoipkaa.Math
set_option linter.unusedVariables false

def S32 : ByteArray := ⟨#[97, 98, 99, 100, 101, 102, 103, 104, 105, 106, 107, 108, 109, 110, 111, 112, 113, 114, 115, 116, 117, 118, 119, 120, 121, 122, 50, 51, 52, 53, 54, 55]⟩
def S16 : ByteArray := ⟨#[48, 49, 50, 51, 52, 53, 54, 55, 56, 57, 97, 98, 99, 100, 101, 102]⟩
theorem S32_size : S32.size = 2 ^ 5 := rfl
theorem S16_size : S16.size = 2 ^ 4 := rfl

/-! ### bit -/
theorem getD_bitsN (w v i : Nat) (h : i < w) : (bitsN w v).getD i 0 = v / 2 ^ (w - 1 - i) % 2 := by
  induction w generalizing i with
  | zero => omega
  | succ w ih =>
    cases i with
    | zero => simp [bitsN]
    | succ i =>
      simp only [bitsN, List.getD_cons_succ]
      rw [ih i (by omega)]
      congr 3
      omega
theorem getD_bitsB (l : List Nat) (i : Nat) : (bitsB l).getD i 0 = if i / 8 < l.length then l.getD (i / 8) 0 / 2 ^ (7 - i % 8) % 2 else 0 := by
  induction l generalizing i with
  | nil => simp [bitsB]
  | cons c l ih =>
    rw [show bitsB (c :: l) = bitsN 8 c ++ bitsB l from rfl]
    rcases Nat.lt_or_ge i 8 with h | h
    · rw [List.getD_eq_getElem?_getD, List.getElem?_append_left (by rw [length_bitsN]; exact h), ← List.getD_eq_getElem?_getD, getD_bitsN 8 c i h, Nat.div_eq_of_lt h, Nat.mod_eq_of_lt h, if_pos (by simp)]
      simp
    · rw [List.getD_eq_getElem?_getD, List.getElem?_append_right (by rw [length_bitsN]; exact h), ← List.getD_eq_getElem?_getD, length_bitsN, ih (i - 8)]
      have e1 : i / 8 = (i - 8) / 8 + 1 := by omega
      have e2 : (i - 8) % 8 = i % 8 := by omega
      rw [e1, e2, List.getD_cons_succ]
      by_cases hl : (i - 8) / 8 < l.length
      · rw [if_pos hl, if_pos (by simpa using hl)]
      · rw [if_neg hl, if_neg (by simpa using hl)]
theorem bt_getD (s : ByteArray) (i : Nat) : bt s (i : Int) = ((nats s).getD i 0 : Nat) := by
  rcases Nat.lt_or_ge i (nats s).length with h | h
  · have e : nats s = (nats s).take i ++ (nats s)[i] :: (nats s).drop (i + 1) := by simp
    have := bt_nats e
    rw [List.length_take, Nat.min_eq_left (by omega)] at this
    rw [this, List.getD_eq_getElem?_getD, List.getElem?_eq_getElem h]
    rfl
  · rw [List.getD_eq_getElem?_getD, List.getElem?_eq_none h]
    unfold bt
    rw [nats_length] at h
    rw [dif_neg (by simpa using h)]
    rfl
theorem bit_loop : ∀ (m v : Nat), m ≤ 7 → v < 256 → Ev (fun k => bulletinref05_bit.l0 k (v : Int) ((7 - m : Nat) : Int)) ((v / 2 ^ m % 2 : Nat) : Int) := by
  intro m
  induction m with
  | zero =>
    intro v _ hv
    refine Ev.step (f := fun _ => some ((v / 2 ^ 0 % 2 : Nat) : Int)) (fun k => ?_) (Ev.now _)
    simp only [bulletinref05_bit.l0]
    rw [if_neg (by omega)]
    simp [Int.tmod_eq_emod_of_nonneg]
  | succ m ih =>
    intro v hm hv
    refine Ev.step (fun k => ?_) (by
      have := ih (v / 2) (by omega) (by omega)
      rw [Nat.div_div_eq_div_mul, ← Nat.pow_succ'] at this
      exact this)
    simp only [bulletinref05_bit.l0]
    rw [if_pos (by omega), Int.tdiv_eq_ediv_of_nonneg (by omega), w64 (by omega) (by omega), w64 (by omega) (by omega)]
    congr 1
    omega
theorem bit_ev (s : ByteArray) (i : Nat) (hi : i ≤ 100000000) : Ev (fun k => bulletinref05_bit.f k s (i : Int)) (((bitsB (nats s)).getD i 0 : Nat) : Int) := by
  rw [getD_bitsB, nats_length]
  have e1 : wrap64 (Int.tdiv (i : Int) 8) = ((i / 8 : Nat) : Int) := by rw [Int.tdiv_eq_ediv_of_nonneg (by omega), w64 (by omega) (by omega)]; rfl
  have e2 : Int.tmod (i : Int) 8 = ((i % 8 : Nat) : Int) := by rw [Int.tmod_eq_emod_of_nonneg (by omega)]; rfl
  by_cases h : i / 8 < s.size
  · rw [if_pos h]
    have hc : (nats s).getD (i / 8) 0 < 256 := by
      rw [List.getD_eq_getElem?_getD, List.getElem?_eq_getElem (by rw [nats_length]; exact h)]
      exact nats_lt s _ (List.getElem_mem _)
    refine Ev.congr (fun k => ?_) (bit_loop (7 - i % 8) _ (by omega) hc)
    unfold bulletinref05_bit.f
    rw [e1, e2, if_neg (by omega), if_pos (by omega), if_pos (by omega), bt_getD, w64 (by omega) (by omega)]
    congr 1
    omega
  · rw [if_neg h]
    refine Ev.congr (f := fun _ => some 0) (fun k => ?_) (Ev.now _)
    unfold bulletinref05_bit.f
    rw [e1, if_pos (by omega)]

/-! ### To32 -/
def sg (d : Nat) : Nat := if d < 26 then 97 + d else 24 + d
theorem sign_eq (d : Nat) (h : d < 32) : bulletinref05_sign.f (d : Int) = some ((sg d : Nat) : Int) := by
  unfold bulletinref05_sign.f sg
  by_cases h2 : d < 26
  · rw [if_pos (by omega), if_pos h2, w64 (by omega) (by omega)]
    congr 1
    omega
  · rw [if_neg (by omega), if_neg h2, w64 (by omega) (by omega)]
    congr 1
    omega
theorem bt_S32 : ∀ d : Nat, d < 32 → bt S32 (d : Int) = ((sg d : Nat) : Int) := by decide +kernel
theorem signs32 (ds : List Nat) (h : ∀ d ∈ ds, d < 32) : strOfNums (ds.map fun d => bt S32 (d : Nat)) = str (ds.map sg) := by
  unfold str ints
  rw [List.map_map]
  congr 1
  exact List.map_congr_left fun d hd => bt_S32 d (h d hd)
theorem str_one (c : Nat) : strOfNums [(c : Int)] = str [c] := rfl

theorem to32_inner (s x3 : ByteArray) (i : Nat) (hi : i ≤ 8000000) (r : ByteArray) :
    let b := fun j => (bitsB (nats s)).getD (i + j) 0
    (∀ j, b j < 2) → Ev (fun k => (bulletinref05_sign.f ((2 * (2 * (2 * (2 * (2 * 0 + b 0) + b 1) + b 2) + b 3) + b 4 : Nat) : Int)).bind fun t114 => ((some (([t114] : List Int) : List Int)).bind fun y115 => (if x3.size + (strOfNums y115).size ≤ 9223372036854775807 then (bulletinref05_To32.l0 k s (x3 ++ (strOfNums y115)) (wrap64 ((i : Int) + 5))) else (none)))) r →
    Ev (fun k => bulletinref05_To32.l1 k s x3 (i : Int) 0 0) r := by
  intro b hb h
  have step : ∀ (j X : Nat), j < 5 → X < 64 → Ev (fun k => bulletinref05_To32.l1 k s x3 (i : Int) ((2 * X + b j : Nat) : Int) ((j + 1 : Nat) : Int)) r → Ev (fun k => bulletinref05_To32.l1 k s x3 (i : Int) (X : Int) (j : Int)) r := by
    intro j X hj hX h
    have hbj := hb j
    refine Ev.step (fun k => ?_) (Ev.bind (bit_ev s (i + j) (by omega)) (f := fun k t113 => bulletinref05_To32.l1 k s x3 (i : Int) (wrap64 ((wrap64 (2 * (X : Int))) + t113)) (wrap64 ((j : Int) + 1))) ?_)
    · simp only [bulletinref05_To32.l1]
      rw [if_pos (by omega), w64 (x := (i : Int) + j) (by omega) (by omega)]
      rfl
    · refine Ev.congr (fun k => ?_) h
      show bulletinref05_To32.l1 k s x3 (i : Int) (wrap64 ((wrap64 (2 * (X : Int))) + ((b j : Nat) : Int))) (wrap64 ((j : Int) + 1)) = _
      rw [w64 (x := 2 * (X : Int)) (by omega) (by omega), w64 (by omega) (by omega), w64 (by omega) (by omega)]
      rfl
  have h0 := hb 0; have h1 := hb 1; have h2 := hb 2; have h3 := hb 3; have h4 := hb 4
  refine step 0 0 (by omega) (by omega) (step 1 _ (by omega) (by omega) (step 2 _ (by omega) (by omega) (step 3 _ (by omega) (by omega) (step 4 _ (by omega) (by omega) ?_))))
  refine Ev.step (fun k => ?_) h
  simp only [bulletinref05_To32.l1]
  rw [if_neg (by omega)]

theorem to32_loop (s : ByteArray) (hs : s.size ≤ 1000000) : ∀ (n i : Nat) (o ds : List Nat), 8 * s.size - i ≤ n → i ≤ 8 * s.size + 5 → o.length ≤ i → Enc 5 ((bitsB (nats s)).drop i) ds →
    Ev (fun k => bulletinref05_To32.l0 k s (str o) (i : Int)) (str (o ++ ds.map sg)) := by
  have hlen : (bitsB (nats s)).length = 8 * s.size := by
    rw [← nats_length]
    generalize nats s = l
    induction l with
    | nil => rfl
    | cons c l ih => rw [show bitsB (c :: l) = bitsN 8 c ++ bitsB l from rfl, List.length_append, length_bitsN, ih, List.length_cons]; omega
  have done : ∀ (i : Nat) (o ds : List Nat), 8 * s.size ≤ i → i ≤ 8 * s.size + 5 → Enc 5 ((bitsB (nats s)).drop i) ds → Ev (fun k => bulletinref05_To32.l0 k s (str o) (i : Int)) (str (o ++ ds.map sg)) := by
    intro i o ds h hi he
    rw [List.drop_of_length_le (by omega)] at he
    obtain rfl := Enc.inv_nil (by decide) he
    refine Ev.step (f := fun _ => some (str o)) (fun k => ?_) (by simpa using Ev.now (str o))
    simp only [bulletinref05_To32.l0]
    rw [if_neg (by rw [w64 (by omega) (by omega)]; omega)]
  intro n
  induction n with
  | zero => intro i o ds hn hi ho he; exact done i o ds (by omega) hi he
  | succ n ih =>
    intro i o ds hn hi ho he
    rcases Nat.lt_or_ge i (8 * s.size) with hlt | hge
    · have hbits := (bits_bitsB (nats s)).drop i
      have hdl : ((bitsB (nats s)).drop i).length = 8 * s.size - i := by rw [List.length_drop, hlen]
      have hb : ∀ j, (bitsB (nats s)).getD (i + j) 0 < 2 := by
        intro j
        rw [List.getD_eq_getElem?_getD]
        rcases Nat.lt_or_ge (i + j) (bitsB (nats s)).length with h | h
        · rw [List.getElem?_eq_getElem h]; exact bits_bitsB _ _ (List.getElem_mem _)
        · rw [List.getElem?_eq_none h]; decide
      have hg : ∀ j, (bitsB (nats s)).getD (i + j) 0 = ((bitsB (nats s)).drop i).getD j 0 := by
        intro j
        rw [List.getD_eq_getElem?_getD, List.getD_eq_getElem?_getD, List.getElem?_drop]
      -- the digit, and what is left
      obtain ⟨d, ds', rfl, hd, he', hx⟩ : ∃ d ds', ds = d :: ds' ∧ d < 32 ∧ Enc 5 ((bitsB (nats s)).drop (i + 5)) ds' ∧ 2 * (2 * (2 * (2 * (2 * 0 + (bitsB (nats s)).getD (i + 0) 0) + (bitsB (nats s)).getD (i + 1) 0) + (bitsB (nats s)).getD (i + 2) 0) + (bitsB (nats s)).getD (i + 3) 0) + (bitsB (nats s)).getD (i + 4) 0 = d := by
        simp only [hg]
        have hlt32 := Enc.lt he hbits
        rw [← List.drop_drop]
        generalize (bitsB (nats s)).drop i = L at he hdl hlt32
        match L, he, hdl with
        | [], _, hdl => simp at hdl; omega
        | [a], he, _ => obtain rfl := Enc.inv_last (by simp) (by simp) he; exact ⟨_, [], rfl, hlt32 _ (by simp), by simpa using Enc.nil, by simp [val]; omega⟩
        | [a, b], he, _ => obtain rfl := Enc.inv_last (by simp) (by simp) he; exact ⟨_, [], rfl, hlt32 _ (by simp), by simpa using Enc.nil, by simp [val]; omega⟩
        | [a, b, c], he, _ => obtain rfl := Enc.inv_last (by simp) (by simp) he; exact ⟨_, [], rfl, hlt32 _ (by simp), by simpa using Enc.nil, by simp [val]; omega⟩
        | [a, b, c, e], he, _ => obtain rfl := Enc.inv_last (by simp) (by simp) he; exact ⟨_, [], rfl, hlt32 _ (by simp), by simpa using Enc.nil, by simp [val]; omega⟩
        | a :: b :: c :: e :: f :: L, he, _ =>
          obtain ⟨ds', rfl, h2⟩ := Enc.inv_full (w := 5) (c := [a, b, c, e, f]) (by decide) rfl he
          exact ⟨_, ds', rfl, hlt32 _ (by simp), by simpa using h2, by simp [val]; omega⟩
      have := ih (i + 5) (o ++ [sg d]) ds' (by omega) (by omega) (by simp; omega) he'
      refine Ev.step (fun k => ?_) (to32_inner s (str o) i (by omega) (str (o ++ (d :: ds').map sg)) hb (by
        rw [hx]
        refine Ev.congr (fun k => ?_) (by rw [List.append_assoc] at this; exact this)
        rw [sign_eq d hd]
        simp only [Option.bind_some]
        rw [str_one, if_pos (by rw [str_size, str_size]; simp; omega), w64 (by omega) (by omega), str_append]
        rfl))
      simp only [bulletinref05_To32.l0]
      rw [if_pos (by rw [w64 (by omega) (by omega)]; omega)]
    · exact done i o ds hge hi he
theorem to32_ev (s : ByteArray) (hs : s.size ≤ 1000000) (ds : List Nat) (he : Enc 5 (bitsB (nats s)) ds) : Ev (fun k => bulletinref05_To32.f k s) (str (ds.map sg)) := by
  have := to32_loop s hs (8 * s.size) 0 [] ds (by omega) (by omega) (by simp) (by simpa using he)
  exact this
end Go.Proofs.Ytomdihpleoipkaa.Sem
