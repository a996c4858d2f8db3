/- What code.write comes to: the groups of w bits of its bytes, each as its sign. Condition: of at most a million bytes. -/
import Derived.Test.YtomdihpleoipkaaHand
import Derived.Test.YtomdihpleoipkaaMath
import Derived.Laws.BitsLemmas
namespace Go.Proofs.Ytomdihpleoipkaa.Sem
open Go.RowKit Go.Proofs.Ytomdihpleoipkaa.PC Go.Proofs.YtomdihpleoipkaaW.PrintWords Go.Proofs.YtomdihpleoipkaaW.PrintLast Go.Proofs.YtomdihpleoipkaaW.PrintMore Go.Proofs.Ytomdihpleoipkaa.Math
set_option linter.unusedVariables false

def nats (s : ByteArray) : List Nat := s.data.toList.map UInt8.toNat
theorem nats_length (s : ByteArray) : (nats s).length = s.size := by rw [nats, List.length_map, data_length]
theorem nats_lt (s : ByteArray) : ∀ c ∈ nats s, c < 256 := by
  intro c hc
  simp only [nats, List.mem_map] at hc
  obtain ⟨a, _, rfl⟩ := hc
  exact a.toNat_lt
theorem bt_nats {s : ByteArray} {pre rest : List Nat} {c : Nat} (h : nats s = pre ++ c :: rest) : bt s (pre.length : Int) = (c : Int) := by
  have hl : pre.length < s.size := by rw [← nats_length, h]; simp
  have e : (nats s)[pre.length]? = some c := by rw [h]; simp
  unfold bt
  rw [dif_pos (by simpa using hl)]
  simp only [nats, List.getElem?_map] at e
  have e2 : s.data.toList[pre.length]? = some (s[pre.length]'hl) := by
    rw [List.getElem?_eq_getElem (by rw [data_length]; exact hl)]
    rfl
  rw [e2] at e
  simp only [Option.map_some, Option.some.injEq] at e
  simp only [Int.toNat_natCast]
  exact congrArg _ e
theorem nats_inj {s t : ByteArray} (h : nats s = nats t) : s = t := by
  have h2 : s.data.toList = t.data.toList := by
    refine (List.map_inj_right (f := UInt8.toNat) ?_).1 h
    intro a b hab
    exact UInt8.toNat_inj.1 hab
  have h3 : s.data = t.data := by rw [← Array.toList_inj]; exact h2
  cases s; cases t
  simp only at h3
  rw [h3]
theorem nats_strOfNums {xs : List Int} (h : ∀ x ∈ xs, 0 ≤ x ∧ x < 256) : nats (strOfNums xs) = xs.map Int.toNat := by
  simp only [nats, strOfNums_data, List.map_map]
  refine List.map_congr_left fun x hx => ?_
  have := h x hx
  simp only [Function.comp_apply, UInt8.toNat_ofNat']
  omega
theorem w64 {x : Int} (h0 : -9223372036854775808 ≤ x) (h1 : x ≤ 9223372036854775807) : wrap64 x = x := by unfold wrap64; omega
theorem wraps_i64 (n : Int) (h0 : 0 ≤ n) (h1 : n < 2 ^ 63) : IntKind.i64.wrap n = n := by rw [IntKind.wrap_i64]; omega
theorem or_byte (h c : Nat) (hh : h < 65536) (hc : c < 256) : Go.bits .or .i64 (wrap64 ((h : Int) * 256)) (wrap64 (c : Int)) = ((h * 256 + c : Nat) : Int) := by
  rw [w64 (by omega) (by omega), w64 (by omega) (by omega)]
  rw [bits_join .i64 63 (by decide) wraps_i64 8 ((h : Int) * 256) c (by omega) (by omega) (by omega) (by omega) (by omega) (by omega)]
  simp
theorem pow_le {m : Nat} (hm : m ≤ 16) : 2 ^ m ≤ 65536 := by
  have := Nat.pow_le_pow_right (n := 2) (by decide) hm
  simpa using this
theorem shl_one (m : Nat) (hm : m ≤ 16) : shl .i64 1 (m : Int) = ((2 ^ m : Nat) : Int) := by
  have := pow_le hm
  have e : ((2 : Int) ^ m) = ((2 ^ m : Nat) : Int) := by simp
  unfold shl
  rw [show min (m : Int).toNat IntKind.i64.bits = m by simp [IntKind.bits]; omega, Int.one_mul, e, wraps_i64 _ (Int.natCast_nonneg _) (by omega)]
theorem shr_nat (v m : Nat) (hm : m ≤ 16) : shr .i64 (v : Int) (m : Int) = ((v / 2 ^ m : Nat) : Int) := by
  unfold shr
  rw [show min (m : Int).toNat IntKind.i64.bits = m by simp [IntKind.bits]; omega]
  simp
theorem shl_nat (v m : Nat) (hm : m ≤ 8) (hv : v < 65536) : shl .i64 (v : Int) (m : Int) = ((v * 2 ^ m : Nat) : Int) := by
  have := pow_le (show m ≤ 16 by omega)
  have h2 : v * 2 ^ m ≤ 65536 * 65536 := Nat.mul_le_mul (by omega) this
  have e : ((v : Int) * 2 ^ m) = ((v * 2 ^ m : Nat) : Int) := by simp
  unfold shl
  rw [show min (m : Int).toNat IntKind.i64.bits = m by simp [IntKind.bits]; omega, e, wraps_i64 _ (by omega) (by omega)]
theorem and_mask (v m : Nat) (hm : m ≤ 16) (hv : v < 65536) : Go.bits .and .i64 (v : Int) (wrap64 ((shl .i64 1 (m : Int)) - 1)) = ((v % 2 ^ m : Nat) : Int) := by
  have h1 := pow_le hm
  have h2 : 0 < 2 ^ m := Nat.two_pow_pos m
  rw [shl_one m hm, w64 (by omega) (by omega)]
  have e : (((2 ^ m : Nat) : Int) - 1) = (2 : Int) ^ m - 1 := by simp
  rw [e, bits_mask .i64 63 (by decide) wraps_i64 m (by omega) v (by omega) (by omega)]
  simp

section
variable (S : ByteArray) (w : Nat) (hw0 : 0 < w) (hw8 : w ≤ 8) (hS : S.size = 2 ^ w) (s : ByteArray)
include hw0 hw8 hS
/-- The inner loop. -/
theorem write_inner (R : List Nat) (i N : Nat) (hi : i < 10000000) (hN : N ≤ 100000000)
    (next : ∀ (pend : List Nat) (out : List Int) (ds : List Nat), Bits pend → pend.length < w → out.length + pend.length ≤ N → Enc w (pend ++ R) ds →
      Ev (fun k => code_write.l0 k s S w out (val pend : Nat) (pend.length : Nat) (s.size : Nat) ((i + 1 : Nat) : Int)) (strOfNums (out ++ ds.map fun d => bt S (d : Nat)))) :
    ∀ (n : Nat) (pend : List Nat) (out : List Int) (ds : List Nat), pend.length ≤ n → pend.length ≤ 16 → Bits pend → out.length + pend.length ≤ N → Enc w (pend ++ R) ds →
      Ev (fun k => code_write.l1 k s S w out (val pend : Nat) (pend.length : Nat) (s.size : Nat) (i : Nat)) (strOfNums (out ++ ds.map fun d => bt S (d : Nat))) := by
  intro n
  induction n with
  | zero =>
    intro pend out ds hn h16 hb hN2 he
    refine Ev.step (fun k => ?_) (next pend out ds hb (by omega) hN2 he)
    simp only [code_write.l1]
    rw [if_neg (by omega), w64 (by omega) (by omega)]
    rfl
  | succ n ih =>
    intro pend out ds hn h16 hb hN2 he
    rcases Nat.lt_or_ge pend.length w with hlt | hge
    · refine Ev.step (fun k => ?_) (next pend out ds hb hlt hN2 he)
      simp only [code_write.l1]
      rw [if_neg (by omega), w64 (by omega) (by omega)]
      rfl
    · have he' := he
      rw [← List.take_append_drop w pend, List.append_assoc] at he'
      obtain ⟨ds', rfl, he2⟩ := Enc.inv_full hw0 (by rw [List.length_take]; omega) he'
      have hv := val_lt hb
      have hv2 := pow_le h16
      have ht := val_take hb w
      have hd := val_drop hb w
      have htl := val_lt (hb.take w)
      rw [List.length_take, Nat.min_eq_left hge] at htl
      have hdl : (pend.drop w).length = pend.length - w := List.length_drop
      have := ih (pend.drop w) (out ++ [bt S (val (pend.take w) : Nat)]) ds' (by omega) (by omega) (hb.drop w) (by rw [List.length_append, List.length_singleton, hdl]; omega) he2
      rw [List.append_assoc] at this
      refine Ev.step (fun k => ?_) this
      simp only [code_write.l1]
      rw [if_pos (by omega), w64 (x := (pend.length : Int) - w) (by omega) (by omega)]
      rw [show ((pend.length : Int) - w) = ((pend.length - w : Nat) : Int) by omega]
      rw [shr_nat _ _ (by omega), and_mask _ _ (by omega) (by omega), ← ht, ← hd, hdl]
      rw [if_pos (by omega), if_pos (by omega), if_pos (by rw [hS]; omega), if_pos (by omega)]

theorem write_loop (hs : s.size ≤ 1000000) : ∀ (rest pre pend : List Nat) (out : List Int) (ds : List Nat), nats s = pre ++ rest → Bits pend → pend.length < w → out.length + pend.length ≤ 8 * pre.length → Enc w (pend ++ bitsB rest) ds →
      Ev (fun k => code_write.l0 k s S w out (val pend : Nat) (pend.length : Nat) (s.size : Nat) (pre.length : Nat)) (strOfNums (out ++ ds.map fun d => bt S (d : Nat))) := by
  intro rest
  induction rest with
  | nil =>
    intro pre pend out ds hn hb hlt hN he
    have hl : pre.length = s.size := by rw [← nats_length, hn]; simp
    have hbl := val_lt hb
    have h16 := pow_le (show pend.length ≤ 16 by omega)
    simp only [bitsB, List.flatMap_nil, List.append_nil] at he
    rcases Nat.eq_zero_or_pos pend.length with h0 | h0
    · obtain rfl : pend = [] := List.eq_nil_of_length_eq_zero h0
      obtain rfl := Enc.inv_nil hw0 he
      refine Ev.step (f := fun _ => some (strOfNums out)) (fun k => ?_) (by simpa using Ev.now _)
      simp only [code_write.l0]
      rw [if_neg (by omega), if_neg (by simp)]
    · obtain rfl := Enc.inv_last h0 hlt he
      have hv : val pend * 2 ^ (w - pend.length) < 2 ^ w := Enc.lt (.last pend h0 hlt) hb _ (by simp)
      refine Ev.step (f := fun _ => some (strOfNums (out ++ [bt S ((val pend * 2 ^ (w - pend.length) : Nat) : Int)]))) (fun k => ?_) (by simpa using Ev.now _)
      simp only [code_write.l0]
      rw [if_neg (by omega), if_pos (by omega), w64 (by omega) (by omega), show ((w : Int) - pend.length) = ((w - pend.length : Nat) : Int) by omega, shl_nat _ _ (by omega) (by omega)]
      rw [if_pos (by omega), if_pos (by omega), if_pos (by rw [hS]; exact_mod_cast hv), if_pos (by omega)]
  | cons c rest ih =>
    intro pre pend out ds hn hb hlt hN he
    have hc : c < 256 := nats_lt s c (by rw [hn]; simp)
    have hl : pre.length < s.size := by rw [← nats_length, hn]; simp
    have hbl := val_lt hb
    have h16 := Nat.pow_le_pow_right (n := 2) (by decide) (show pend.length ≤ 8 by omega)
    have e1 : val (pend ++ bitsN 8 c) = val pend * 256 + c := by rw [val_append, length_bitsN, val_bitsN_lt (w := 8) hc]
    have e2 : (pend ++ bitsN 8 c).length = pend.length + 8 := by rw [List.length_append, length_bitsN]
    have := write_inner S w hw0 hw8 hS s (bitsB rest) pre.length (8 * (pre.length + 1)) (by omega) (by omega)
      (fun pend' out' ds' hb' hl' hN' he' => by
        have := ih (pre ++ [c]) pend' out' ds' (by rw [hn]; simp) hb' hl' (by simpa using hN') he'
        simpa using this)
      16 (pend ++ bitsN 8 c) out ds (by omega) (by omega) (hb.append (bits_bitsN 8 c)) (by omega) (by rw [List.append_assoc]; exact he)
    rw [e1, e2] at this
    refine Ev.step (fun k => ?_) this
    simp only [code_write.l0]
    rw [if_pos (by omega), if_pos (by omega), if_pos (by omega), bt_nats hn, or_byte _ _ (by omega) hc, w64 (by omega) (by omega)]
    rfl
theorem write_ev (hs : s.size ≤ 1000000) (ds : List Nat) (he : Enc w (bitsB (nats s)) ds) : Ev (fun k => code_write.f k s S w) (strOfNums (ds.map fun d => bt S (d : Nat))) := by
  have := write_loop S w hw0 hw8 hS s hs (nats s) [] [] [] ds rfl Bits.nil hw0 (by simp) he
  simpa [code_write.f, val] using this
end
end Go.Proofs.Ytomdihpleoipkaa.Sem
