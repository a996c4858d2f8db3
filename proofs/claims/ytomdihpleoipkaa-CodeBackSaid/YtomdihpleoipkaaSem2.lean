/- What code.read comes to: the bytes of the signs' bits, if they are written so; else none. Condition: of at most a hundred thousand signs. -/
import Derived.Test.YtomdihpleoipkaaSem1
namespace Go.Proofs.Ytomdihpleoipkaa.Sem
open Go.RowKit Go.Proofs.Ytomdihpleoipkaa.PC Go.Proofs.YtomdihpleoipkaaW.PrintWords Go.Proofs.YtomdihpleoipkaaW.PrintLast Go.Proofs.YtomdihpleoipkaaW.PrintMore Go.Proofs.Ytomdihpleoipkaa.Math
set_option linter.unusedVariables false

/-- Bytes as the walk has them. -/
def ints (o : List Nat) : List Int := o.map fun (x : Nat) => ((x : Nat) : Int)
def str (o : List Nat) : ByteArray := strOfNums (ints o)
theorem ints_append (a b : List Nat) : ints (a ++ b) = ints a ++ ints b := List.map_append
theorem ints_length (a : List Nat) : (ints a).length = a.length := List.length_map _
theorem str_append (a b : List Nat) : str (a ++ b) = str a ++ str b := by
  have h : (str (a ++ b)).data = (str a ++ str b).data := by
    rw [ByteArray.data_append]
    simp [str, strOfNums, ints]
  cases hx : str (a ++ b) with | mk x =>
  cases hy : str a ++ str b with | mk y =>
  rw [hx, hy] at h
  exact congrArg _ h
theorem str_size (a : List Nat) : (str a).size = a.length := by rw [str, strOfNums_size, ints_length]
theorem nats_str {o : List Nat} (h : ∀ x ∈ o, x < 256) : nats (str o) = o := by
  rw [str, nats_strOfNums (by
    intro x hx
    simp only [ints, List.mem_map] at hx
    obtain ⟨y, hy, rfl⟩ := hx
    have := h y hy
    omega)]
  simp only [ints, List.map_map]
  conv => rhs; rw [← List.map_id o]
  exact List.map_congr_left fun x _ => by simp
theorem str_nats (s : ByteArray) : str (nats s) = s := nats_inj (nats_str (nats_lt s))
theorem toList_inj {s t : ByteArray} : s.toList = t.toList ↔ s = t := by
  rw [ByteArray.toList_eq, ByteArray.toList_eq]
  constructor
  · intro h
    exact nats_inj (by rw [nats, nats, h])
  · rintro rfl; rfl

/-- The value of a sign; -1: it is none. -/
def sv (S : ByteArray) (c : Nat) : Int := Lib.indexByte S.data.toList c.toUInt8
theorem indexByte_lt (l : List UInt8) (c : UInt8) : Lib.indexByte l c < l.length := by
  induction l with
  | nil => show (-1 : Int) < 0; decide
  | cons b l ih =>
    simp only [Lib.indexByte, List.length_cons]
    split
    · omega
    · split <;> omega
theorem sv_lt (S : ByteArray) (c : Nat) : sv S c < S.size := by
  have := indexByte_lt S.data.toList c.toUInt8
  rw [data_length] at this
  exact this
theorem or_shl (h w v : Nat) (hh : h < 256) (hw : w ≤ 8) (hv : v < 2 ^ w) : Go.bits .or .i64 (shl .i64 (h : Int) (w : Int)) (v : Int) = ((h * 2 ^ w + v : Nat) : Int) := by
  have h2 := Nat.pow_le_pow_right (n := 2) (by decide) hw
  have h3 : h * 2 ^ w ≤ 256 * 256 := Nat.mul_le_mul (by omega) h2
  rw [shl_nat h w hw (by omega)]
  rw [bits_join .i64 63 (by decide) wraps_i64 w _ v (Int.natCast_nonneg _) (by simp) (by omega) (Int.natCast_nonneg _) (by exact_mod_cast hv) (by omega)]
  simp

/-- What follows behind the signs. -/
def fin (t S : ByteArray) (w : Nat) (k : Nat) (o : List Nat) : Option (ByteArray × Int) :=
  (code_write.f k (str o) S w).bind fun u => if u.toList = t.toList then some (str o, 0) else some (⟨#[]⟩, 3)

section
variable (S : ByteArray) (w : Nat) (hw0 : 0 < w) (hw8 : w ≤ 8) (hS : S.size = 2 ^ w) (t : ByteArray)
include hw0 hw8 hS
theorem read_loop (ht : t.size ≤ 100000) (r : ByteArray × Int) : ∀ (rest pre pend o : List Nat), nats t = pre ++ rest → Bits pend → pend.length < 8 → o.length ≤ pre.length →
    ((∀ c ∈ rest, 0 ≤ sv S c) → ∀ bs, Dec (pend ++ rest.flatMap fun c => bitsN w (sv S c).toNat) bs → Ev (fun k => fin t S w k (o ++ bs)) r) →
    ((¬ ∀ c ∈ rest, 0 ≤ sv S c) → r = (⟨#[]⟩, 3)) →
      Ev (fun k => code_read.l0 k t S w (ints o) (val pend : Nat) (pend.length : Nat) (t.size : Nat) (pre.length : Nat)) r := by
  intro rest
  induction rest with
  | nil =>
    intro pre pend o hn hb hlt ho hr hbad
    have hl : pre.length = t.size := by rw [← nats_length, hn]; simp
    have := hr (fun c hc => by cases hc) [] (by simpa using Dec.small pend hlt)
    rw [List.append_nil] at this
    refine Ev.step (fun k => ?_) this
    simp only [code_read.l0]
    rw [if_neg (by omega)]
    rfl
  | cons c rest ih =>
    intro pre pend o hn hb hlt ho hr hbad
    have hc : c < 256 := nats_lt t c (by rw [hn]; simp)
    have hl : pre.length < t.size := by rw [← nats_length, hn]; simp
    have hx : strings_IndexByte.f S (bt t (pre.length : Int)) = some (sv S c) := by rw [bt_nats hn]; rfl
    rcases Int.lt_or_le (sv S c) 0 with hneg | hpos
    · obtain rfl := hbad (fun h => by have := h c (by simp); omega)
      refine Ev.step (f := fun _ => some (⟨#[]⟩, 3)) (fun k => ?_) (Ev.now _)
      simp only [code_read.l0]
      rw [if_pos (by omega), if_pos (by omega), if_pos (by omega), hx]
      simp only [Option.bind_some]
      rw [if_pos hneg]
    · obtain ⟨v, hv⟩ := Int.eq_ofNat_of_zero_le hpos
      have hv2 : v < 2 ^ w := by have := sv_lt S c; rw [hS, hv] at this; exact_mod_cast this
      have hvt : (sv S c).toNat = v := by rw [hv]; rfl
      have hbl := val_lt hb
      have h8 := Nat.pow_le_pow_right (n := 2) (by decide) (show pend.length ≤ 7 by omega)
      have h16 := Nat.pow_le_pow_right (n := 2) (by decide) hw8
      have e1 : val (pend ++ bitsN w v) = val pend * 2 ^ w + v := by rw [val_append, length_bitsN, val_bitsN_lt hv2]
      have e2 : (pend ++ bitsN w v).length = pend.length + w := by rw [List.length_append, length_bitsN]
      have hb2 : Bits (pend ++ bitsN w v) := hb.append (bits_bitsN w v)
      have hb2l := val_lt hb2
      rw [e2] at hb2l
      have h15 := Nat.pow_le_pow_right (n := 2) (by decide) (show pend.length + w ≤ 15 by omega)
      have hbad' : (¬ ∀ c ∈ rest, 0 ≤ sv S c) → r = (⟨#[]⟩, 3) := fun h => hbad fun h' => h fun x hx => h' x (by simp [hx])
      generalize hp : pend ++ bitsN w v = p at e1 e2 hb2 hb2l
      rcases Nat.lt_or_ge (pend.length + w) 8 with hsm | hbg
      · have := ih (pre ++ [c]) p o (by rw [hn]; simp) hb2 (by omega) (by rw [List.length_append]; omega) (fun hall bs hd => by
          refine hr (fun x hx => by
            rcases List.mem_cons.1 hx with rfl | hx
            · omega
            · exact hall x hx) bs ?_
          rw [List.flatMap_cons, ← List.append_assoc, hvt, hp]
          exact hd) hbad'
        rw [List.length_append, List.length_singleton, e2] at this
        refine Ev.step (fun k => ?_) this
        simp only [code_read.l0]
        rw [if_pos (by omega), if_pos (by omega), if_pos (by omega), hx]
        simp only [Option.bind_some]
        rw [if_neg (by omega), if_pos (by omega), hv]
        show (if _ then _ else code_read.l0 _ _ _ _ _ (Go.bits .or .i64 (shl .i64 (val pend : Nat) (w : Int)) (v : Int)) _ _ _) = _
        rw [or_shl _ _ _ (by omega) hw8 hv2, ← e1, w64 (by omega) (by omega), if_neg (by omega), w64 (by omega) (by omega)]
        rfl
      · have htk := val_take hb2 8
        have hdr := val_drop hb2 8
        have htl := val_lt (hb2.take 8)
        rw [e2] at htk hdr
        rw [List.length_take, e2, Nat.min_eq_left hbg] at htl
        have hdl : (p.drop 8).length = pend.length + w - 8 := by rw [List.length_drop, e2]
        have := ih (pre ++ [c]) (p.drop 8) (o ++ [val (p.take 8)]) (by rw [hn]; simp) (hb2.drop 8) (by omega) (by simp; omega) (fun hall bs hd => by
          have := hr (fun x hx => by
            rcases List.mem_cons.1 hx with rfl | hx
            · omega
            · exact hall x hx) (val (p.take 8) :: bs) (by
              rw [List.flatMap_cons, ← List.append_assoc, hvt, hp]
              have := Dec.full (p.take 8) _ bs (by rw [List.length_take]; omega) hd
              rw [← List.append_assoc, List.take_append_drop] at this
              exact this)
          rw [List.append_assoc]
          exact this) hbad'
        rw [List.length_append, List.length_singleton, hdl] at this
        refine Ev.step (fun k => ?_) this
        simp only [code_read.l0]
        rw [if_pos (by omega), if_pos (by omega), if_pos (by omega), hx]
        simp only [Option.bind_some]
        rw [if_neg (by omega), if_pos (by omega), hv]
        show (if _ then (if _ then (if _ then code_read.l0 _ _ _ _ (ints o ++ [(shr .i64 (Go.bits .or .i64 (shl .i64 (val pend : Nat) (w : Int)) (v : Int)) _) % 256]) (Go.bits .and .i64 (Go.bits .or .i64 (shl .i64 (val pend : Nat) (w : Int)) (v : Int)) _) _ _ _ else _) else _) else _) = _
        rw [or_shl _ _ _ (by omega) hw8 hv2, ← e1, w64 (x := (pend.length : Int) + w) (by omega) (by omega), if_pos (by omega), w64 (x := (pend.length : Int) + w - 8) (by omega) (by omega)]
        rw [show ((pend.length : Int) + w - 8) = ((pend.length + w - 8 : Nat) : Int) by omega, shr_nat _ _ (by omega), and_mask _ _ (by omega) (by omega), ← htk, ← hdr]
        rw [if_pos (by omega), if_pos (by rw [ints_length]; omega), w64 (by omega) (by omega)]
        rw [show ((val (p.take 8) : Nat) : Int) % 256 = ((val (p.take 8) : Nat) : Int) by omega, ints_append]
        rfl
/-- The signs are good, and these bytes are written so, or not. -/
theorem read_good (ht : t.size ≤ 100000) (hall : ∀ c ∈ nats t, 0 ≤ sv S c) (bs ds : List Nat) (hd : Dec ((nats t).flatMap fun c => bitsN w (sv S c).toNat) bs) (he : Enc w (bitsB bs) ds) :
    Ev (fun k => code_read.f k t S w) (if strOfNums (ds.map fun d => bt S (d : Nat)) = t then (str bs, 0) else (⟨#[]⟩, 3)) := by
  have hbits : Bits ((nats t).flatMap fun c => bitsN w (sv S c).toNat) := by
    intro b hb
    simp only [List.mem_flatMap] at hb
    obtain ⟨a, _, hb⟩ := hb
    exact bits_bitsN _ _ b hb
  have hlen : ((nats t).flatMap fun c => bitsN w (sv S c).toNat).length ≤ 8 * t.size := by
    rw [← nats_length]
    generalize nats t = l
    induction l with
    | nil => simp
    | cons x l ih => rw [List.flatMap_cons, List.length_append, length_bitsN, List.length_cons]; omega
  have hbl := hd.length_le
  have := read_loop S w hw0 hw8 hS t ht (if strOfNums (ds.map fun d => bt S (d : Nat)) = t then (str bs, 0) else (⟨#[]⟩, 3)) (nats t) [] [] [] rfl Bits.nil (by simp) (by simp)
    (fun _ bs' hd' => by
      have hbs : bs' = bs := by
        have key : ∀ (l a b : List Nat), Dec l a → Dec l b → a = b := by
          intro l a b h
          induction h generalizing b with
          | small _ h1 => intro h2; exact (Dec.inv_small h1 h2).symm
          | full c rest out hc _ ih =>
            intro h2
            obtain ⟨ds', rfl, h3⟩ := Dec.inv_full hc h2
            rw [ih _ h3]
        exact key _ _ _ (by simpa using hd') hd
      subst hbs
      rw [List.nil_append]
      have hw := write_ev S w hw0 hw8 hS (str bs') (by rw [str_size]; omega) ds (by rw [nats_str (hd.lt hbits)]; exact he)
      unfold fin
      refine Ev.bind hw ?_
      refine Ev.congr (f := fun _ => some (if strOfNums (ds.map fun d => bt S (d : Nat)) = t then (str bs', 0) else (⟨#[]⟩, 3))) (fun k => ?_) (Ev.now _)
      by_cases e : strOfNums (ds.map fun d => bt S (d : Nat)) = t
      · rw [if_pos (toList_inj.2 e), if_pos e]
      · rw [if_neg (fun h => e (toList_inj.1 h)), if_neg e]) (fun h => absurd hall h)
  simpa [code_read.f, val, ints] using this
theorem read_bad (ht : t.size ≤ 100000) (hbad : ¬ ∀ c ∈ nats t, 0 ≤ sv S c) : Ev (fun k => code_read.f k t S w) (⟨#[]⟩, 3) := by
  have := read_loop S w hw0 hw8 hS t ht (⟨#[]⟩, 3) (nats t) [] [] [] rfl Bits.nil (by simp) (by simp) (fun h => absurd h hbad) (fun _ => rfl)
  simpa [code_read.f, val, ints] using this
end
end Go.Proofs.Ytomdihpleoipkaa.Sem
