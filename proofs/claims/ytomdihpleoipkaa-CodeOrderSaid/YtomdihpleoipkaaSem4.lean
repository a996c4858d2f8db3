/- What the reference's To16 and Of come to: the same groups of bits, the same signs, the same bytes. Condition: of at most a million bytes, or a hundred thousand signs. -/
import Derived.Test.YtomdihpleoipkaaSem3
namespace Go.Proofs.Ytomdihpleoipkaa.Sem
open Go.RowKit Go.Proofs.Ytomdihpleoipkaa.PC Go.Proofs.YtomdihpleoipkaaW.PrintWords Go.Proofs.YtomdihpleoipkaaW.PrintLast Go.Proofs.YtomdihpleoipkaaW.PrintMore Go.Proofs.Ytomdihpleoipkaa.Math
set_option linter.unusedVariables false

/-! ### To16 -/
def hx (d : Nat) : Nat := if d < 10 then 48 + d else 87 + d
theorem bt_S16 : ∀ d : Nat, d < 16 → bt S16 (d : Int) = ((hx d : Nat) : Int) := by decide +kernel
theorem signs16 (ds : List Nat) (h : ∀ d ∈ ds, d < 16) : strOfNums (ds.map fun d => bt S16 (d : Nat)) = str (ds.map hx) := by
  unfold str ints
  rw [List.map_map]
  congr 1
  exact List.map_congr_left fun d hd => bt_S16 d (h d hd)
theorem extract16 : ∀ d : Nat, d < 16 → digits16.extract (d : Int).toNat ((d : Int) + 1).toNat = str [hx d] := by decide +kernel
theorem halves (c : Nat) (hc : c < 256) : bitsN 8 c = bitsN 4 (c / 16) ++ bitsN 4 (c % 16) := by
  simp only [bitsN, List.cons_append, List.nil_append, List.cons.injEq, and_true]
  refine ⟨?_, ?_, ?_, ?_, ?_, ?_, ?_, ?_⟩ <;> omega
theorem enc16_cons {c : Nat} {R ds : List Nat} (hc : c < 256) (h : Enc 4 (bitsN 8 c ++ R) ds) : ∃ ds', ds = c / 16 :: c % 16 :: ds' ∧ Enc 4 R ds' := by
  rw [halves c hc, List.append_assoc] at h
  obtain ⟨d1, rfl, h1⟩ := Enc.inv_full (by decide) (length_bitsN 4 _) h
  obtain ⟨d2, rfl, h2⟩ := Enc.inv_full (by decide) (length_bitsN 4 _) h1
  refine ⟨d2, ?_, h2⟩
  rw [val_bitsN_lt (by omega), val_bitsN_lt (by omega)]
theorem to16_loop (s : ByteArray) (hs : s.size ≤ 1000000) : ∀ (rest pre o ds : List Nat), nats s = pre ++ rest → o.length ≤ 2 * pre.length → Enc 4 (bitsB rest) ds →
    Ev (fun k => bulletinref05_To16.l0 k s (str o) (pre.length : Nat)) (str (o ++ ds.map hx)) := by
  intro rest
  induction rest with
  | nil =>
    intro pre o ds hn ho he
    have hl : pre.length = s.size := by rw [← nats_length, hn]; simp
    obtain rfl := Enc.inv_nil (by decide) he
    refine Ev.step (f := fun _ => some (str o)) (fun k => ?_) (by simpa using Ev.now (str o))
    simp only [bulletinref05_To16.l0]
    rw [if_neg (by omega)]
  | cons c rest ih =>
    intro pre o ds hn ho he
    have hc : c < 256 := nats_lt s c (by rw [hn]; simp)
    have hl : pre.length < s.size := by rw [← nats_length, hn]; simp
    obtain ⟨ds', rfl, he'⟩ := enc16_cons hc he
    have := ih (pre ++ [c]) (o ++ [hx (c / 16)] ++ [hx (c % 16)]) ds' (by rw [hn]; simp) (by simp; omega) he'
    rw [List.append_assoc, List.append_assoc] at this
    refine Ev.step (fun k => ?_) this
    simp only [bulletinref05_To16.l0]
    rw [if_pos (by omega), if_pos (by omega), if_pos (by rw [str_size]; omega), bt_nats hn]
    rw [show ((c : Int) / 16) = ((c / 16 : Nat) : Int) by omega, show ((c : Int) % 16) = ((c % 16 : Nat) : Int) by omega, extract16 _ (by omega), extract16 _ (by omega), ← str_append, ← str_append, w64 (by omega) (by omega)]
    rw [List.length_append]
    simp
theorem to16_ev (s : ByteArray) (hs : s.size ≤ 1000000) (ds : List Nat) (he : Enc 4 (bitsB (nats s)) ds) : Ev (fun k => bulletinref05_To16.f k s) (str (ds.map hx)) := by
  have := to16_loop s hs (nats s) [] [] ds rfl (by simp) he
  exact this

/-! ### value -/
theorem value32 : ∀ c : Nat, c < 256 → bulletinref05_value.f 40 (c : Int) 32 = some (sv S32 c) := by decide +kernel
theorem value16 : ∀ c : Nat, c < 256 → bulletinref05_value.f 40 (c : Int) 16 = some (sv S16 c) := by decide +kernel

/-! ### Of -/
def ofFin (t : ByteArray) (many : Int) (k : Nat) (x7 : ByteArray) : Option (ByteArray × Bool) :=
  (if many = 32 then ((bulletinref05_To32.f k x7).bind fun t123 => (if t123.toList = t.toList then (if many = 16 then ((bulletinref05_To16.f k x7).bind fun t124 => (if t124.toList = t.toList then (some (x7, true)) else (some ((⟨#[]⟩ : ByteArray), false)))) else (some (x7, true))) else (some ((⟨#[]⟩ : ByteArray), false)))) else (if many = 16 then ((bulletinref05_To16.f k x7).bind fun t125 => (if t125.toList = t.toList then (some (x7, true)) else (some ((⟨#[]⟩ : ByteArray), false)))) else (some (x7, true))))

section
variable (S : ByteArray) (w many : Nat) (hw0 : 0 < w) (hw8 : w ≤ 8) (hS : S.size = 2 ^ w) (hval : ∀ c : Nat, c < 256 → bulletinref05_value.f 40 (c : Int) (many : Int) = some (sv S c)) (t : ByteArray) (r : ByteArray × Bool)
include hw0 hw8 hS hval

omit hw0 hw8 hS hval in
/-- p is halved so often. -/
theorem of_halve (o : List Nat) (held n i v kk : Nat) (hv : v < 256) (hk : kk ≤ 8) : ∀ (m j p : Nat), j + m = kk → p = v / 2 ^ j →
    Ev (fun k => bulletinref05_Of.l2 k t (many : Int) (w : Int) (str o) (held : Int) (n : Int) (i : Int) (v : Int) (kk : Int) ((v / 2 ^ kk : Nat) : Int) (kk : Int)) r →
    Ev (fun k => bulletinref05_Of.l2 k t (many : Int) (w : Int) (str o) (held : Int) (n : Int) (i : Int) (v : Int) (kk : Int) (p : Int) (j : Int)) r := by
  intro m
  induction m with
  | zero => intro j p hj hp h; obtain rfl : j = kk := by omega
            subst hp; exact h
  | succ m ih =>
    intro j p hj hp h
    have hp2 : p ≤ v := by rw [hp]; exact Nat.div_le_self _ _
    refine Ev.step (fun k => ?_) (ih (j + 1) (p / 2) (by omega) (by rw [hp, Nat.div_div_eq_div_mul, ← Nat.pow_succ]) h)
    conv => lhs; unfold bulletinref05_Of.l2
    rw [if_pos (by omega), Int.tdiv_eq_ediv_of_nonneg (by omega), w64 (by omega) (by omega), w64 (by omega) (by omega)]
    rfl
omit hS hval in
/-- The bits of a sign, one by one. -/
theorem of_bits (G : Prop) (R : List Nat) (i v N : Nat) (hi : i ≤ 1000000) (hv : v < 2 ^ w) (hN : N ≤ 100000000)
    (next : ∀ (pend o : List Nat), Bits pend → pend.length < 8 → o.length ≤ N → (G → ∀ bs, Dec (pend ++ R) bs → Ev (fun k => ofFin t many k (str (o ++ bs))) r) →
      Ev (fun k => bulletinref05_Of.l0 k t (many : Int) (w : Int) (str o) (val pend : Nat) (pend.length : Nat) ((i + 1 : Nat) : Int)) r) :
    ∀ (m : Nat) (pend o : List Nat), m ≤ w → Bits pend → pend.length < 8 → o.length + m ≤ N → (G → ∀ bs, Dec (pend ++ bitsN m v ++ R) bs → Ev (fun k => ofFin t many k (str (o ++ bs))) r) →
      Ev (fun k => bulletinref05_Of.l1 k t (many : Int) (w : Int) (str o) (val pend : Nat) (pend.length : Nat) (i : Int) (v : Int) ((m : Int) - 1)) r := by
  have hv2 : v < 256 := Nat.lt_of_lt_of_le hv (Nat.pow_le_pow_right (n := 2) (by decide) hw8)
  intro m
  induction m with
  | zero =>
    intro pend o hm hb hlt hoN hr
    refine Ev.step (fun k => ?_) (next pend o hb hlt (by omega) (fun hG bs hd => hr hG bs (by simpa [bitsN] using hd)))
    conv => lhs; unfold bulletinref05_Of.l1
    rw [if_neg (by omega), w64 (by omega) (by omega)]
    rfl
  | succ m ih =>
    intro pend o hm hb hlt hoN hr
    have hbl := val_lt hb
    have h8 := Nat.pow_le_pow_right (n := 2) (by decide) (show pend.length ≤ 7 by omega)
    have hbit : v / 2 ^ m % 2 < 2 := Nat.mod_lt _ (by decide)
    have hb1 : Bits [v / 2 ^ m % 2] := fun x hx => by simp only [List.mem_singleton] at hx; omega
    have hb2 := hb.append hb1
    have e0 : ∀ x, val (pend ++ [x]) = 2 * val pend + x := fun x => by rw [val_append]; simp [val]; omega
    have e1 := e0 (v / 2 ^ m % 2)
    clear e0
    have e2 : (pend ++ [v / 2 ^ m % 2]).length = pend.length + 1 := by simp
    have e3 : pend ++ bitsN (m + 1) v = (pend ++ [v / 2 ^ m % 2]) ++ bitsN m v := by simp [bitsN]
    rw [e3] at hr
    have ev : Int.tmod ((v / 2 ^ m : Nat) : Int) 2 = ((v / 2 ^ m % 2 : Nat) : Int) := by rw [Int.tmod_eq_emod_of_nonneg (Int.natCast_nonneg _)]; rfl
    generalize hp : pend ++ [v / 2 ^ m % 2] = p at e1 e2 hb2 hr
    clear e3 hp
    generalize v / 2 ^ m % 2 = b at ev hbit hb1 e1
    have hpl := val_lt hb2
    rw [e2] at hpl
    have h9 := Nat.pow_le_pow_right (n := 2) (by decide) (show pend.length + 1 ≤ 8 by omega)
    refine Ev.step (fun k => ?_) (of_halve w many t r o (val pend) pend.length i v m hv2 (by omega) m 0 v (by omega) (by simp) ?_)
    · conv => lhs; unfold bulletinref05_Of.l1
      rw [if_pos (by omega), show (((m + 1 : Nat) : Int) - 1) = (m : Int) by omega]
      rfl
    · rcases Nat.lt_or_ge (pend.length + 1) 8 with hsm | hbg
      · have := ih p o (by omega) hb2 (by omega) (by omega) hr
        refine Ev.step (fun k => ?_) this
        conv => lhs; unfold bulletinref05_Of.l2
        rw [if_neg (by omega), w64 (x := (pend.length : Int) + 1) (by omega) (by omega), if_neg (by omega), ev, w64 (x := 2 * ((val pend : Nat) : Int)) (by omega) (by omega), w64 (by omega) (by omega), w64 (by omega) (by omega), e1, e2]
        rfl
      · have := ih [] (o ++ [val p]) (by omega) Bits.nil (by simp) (by simp; omega) (fun hG bs hd => by
          have := hr hG (val p :: bs) (by
            rw [List.append_assoc]
            exact Dec.full p _ bs (by omega) hd)
          rw [List.append_assoc]
          exact this)
        refine Ev.step (fun k => ?_) this
        conv => lhs; unfold bulletinref05_Of.l2
        rw [if_neg (by omega), w64 (x := (pend.length : Int) + 1) (by omega) (by omega), if_pos (by omega), ev, w64 (x := 2 * ((val pend : Nat) : Int)) (by omega) (by omega), w64 (by omega) (by omega), w64 (by omega) (by omega)]
        simp only [Option.bind_some]
        rw [show (2 * ((val pend : Nat) : Int) + (b : Int)) % 256 = ((val p : Nat) : Int) by omega, str_one, if_pos (by rw [str_size, str_size]; simp; omega), ← str_append]
        rfl
theorem of_loop (ht : t.size ≤ 100000) : ∀ (rest pre pend o : List Nat), nats t = pre ++ rest → Bits pend → pend.length < 8 → o.length ≤ 8 * pre.length →
    ((∀ c ∈ rest, 0 ≤ sv S c) → ∀ bs, Dec (pend ++ rest.flatMap fun c => bitsN w (sv S c).toNat) bs → Ev (fun k => ofFin t many k (str (o ++ bs))) r) →
    ((¬ ∀ c ∈ rest, 0 ≤ sv S c) → r = (⟨#[]⟩, false)) →
      Ev (fun k => bulletinref05_Of.l0 k t (many : Int) (w : Int) (str o) (val pend : Nat) (pend.length : Nat) (pre.length : Nat)) r := by
  intro rest
  induction rest with
  | nil =>
    intro pre pend o hn hb hlt ho hr hbad
    have hl : pre.length = t.size := by rw [← nats_length, hn]; simp
    have := hr (fun c hc => by cases hc) [] (by simpa using Dec.small pend hlt)
    rw [List.append_nil] at this
    refine Ev.step (fun k => ?_) this
    conv => lhs; unfold bulletinref05_Of.l0
    rw [if_neg (by omega)]
    rfl
  | cons c rest ih =>
    intro pre pend o hn hb hlt ho hr hbad
    have hc : c < 256 := nats_lt t c (by rw [hn]; simp)
    have hl : pre.length < t.size := by rw [← nats_length, hn]; simp
    have hxv : Ev (fun k => bulletinref05_value.f k (bt t (pre.length : Nat)) (many : Int)) (sv S c) := by
      rw [bt_nats hn]
      exact Ev.of (bulletinref05_value.mono _ _) (hval c hc)
    have hstep : ∀ k, bulletinref05_Of.l0 (k + 1) t (many : Int) (w : Int) (str o) (val pend : Nat) (pend.length : Nat) (pre.length : Nat) =
        (bulletinref05_value.f k (bt t (pre.length : Nat)) (many : Int)).bind fun t119 => (if t119 < 0 then (some ((⟨#[]⟩ : ByteArray), false)) else (bulletinref05_Of.l1 k t (many : Int) (w : Int) (str o) (val pend : Nat) (pend.length : Nat) (pre.length : Nat) t119 (wrap64 ((w : Int) - 1)))) := by
      intro k
      conv => lhs; unfold bulletinref05_Of.l0
      rw [if_pos (by omega), if_pos (by omega)]
    refine Ev.step hstep (Ev.bind hxv ?_)
    rcases Int.lt_or_le (sv S c) 0 with hneg | hpos
    · obtain rfl := hbad (fun h => by have := h c (by simp); omega)
      refine Ev.congr (f := fun _ => some (⟨#[]⟩, false)) (fun k => ?_) (Ev.now _)
      rw [if_pos hneg]
    · obtain ⟨v, hv⟩ := Int.eq_ofNat_of_zero_le hpos
      have hv2 : v < 2 ^ w := by have := sv_lt S c; rw [hS, hv] at this; exact_mod_cast this
      have hvt : (sv S c).toNat = v := by rw [hv]; rfl
      have := of_bits w many hw0 hw8 t r (∀ x ∈ rest, 0 ≤ sv S x) (rest.flatMap fun c => bitsN w (sv S c).toNat) pre.length v (8 * (pre.length + 1)) (by omega) hv2 (by omega)
        (fun pend' o' hb' hl' ho' hr' => by
          have := ih (pre ++ [c]) pend' o' (by rw [hn]; simp) hb' hl' (by simpa using ho') (fun hG bs hd => hr' hG bs hd) (fun h => hbad fun h' => h fun x hx => h' x (by simp [hx]))
          simpa using this)
        w pend o (Nat.le_refl _) hb hlt (by omega) (fun hall bs hd => by
          refine hr (fun x hx => ?_) bs ?_
          · rcases List.mem_cons.1 hx with rfl | hx
            · omega
            · exact hall x hx
          · rw [List.flatMap_cons, hvt, ← List.append_assoc]
            exact hd)
      refine Ev.congr (fun k => ?_) this
      rw [if_neg (by omega), hv, w64 (by omega) (by omega)]
end

theorem dec_det {l a b : List Nat} (h : Dec l a) (h2 : Dec l b) : a = b := by
  induction h generalizing b with
  | small _ h1 => exact (Dec.inv_small h1 h2).symm
  | full c rest out hc _ ih =>
    obtain ⟨ds', rfl, h3⟩ := Dec.inv_full hc h2
    rw [ih h3]
theorem signBits (S : ByteArray) (w : Nat) (t : ByteArray) : Bits ((nats t).flatMap fun c => bitsN w (sv S c).toNat) := by
  intro b hb
  simp only [List.mem_flatMap] at hb
  obtain ⟨a, _, hb⟩ := hb
  exact bits_bitsN _ _ b hb
theorem signBits_length (S : ByteArray) (w : Nat) (hw8 : w ≤ 8) (t : ByteArray) : ((nats t).flatMap fun c => bitsN w (sv S c).toNat).length ≤ 8 * t.size := by
  rw [← nats_length]
  generalize nats t = l
  induction l with
  | nil => simp
  | cons x l ih => rw [List.flatMap_cons, List.length_append, length_bitsN, List.length_cons]; omega
theorem of32_good (t : ByteArray) (ht : t.size ≤ 100000) (hall : ∀ c ∈ nats t, 0 ≤ sv S32 c) (bs ds : List Nat) (hd : Dec ((nats t).flatMap fun c => bitsN 5 (sv S32 c).toNat) bs) (he : Enc 5 (bitsB bs) ds) :
    Ev (fun k => bulletinref05_Of.f k t 32) (if str (ds.map sg) = t then (str bs, true) else (⟨#[]⟩, false)) := by
  have hbl := hd.length_le
  have hsl := signBits_length S32 5 (by decide) t
  have := of_loop S32 5 32 (by decide) (by decide) S32_size value32 t (if str (ds.map sg) = t then (str bs, true) else (⟨#[]⟩, false)) ht (nats t) [] [] [] rfl Bits.nil (by simp) (by simp)
    (fun _ bs' hd' => by
      obtain rfl := dec_det (by simpa using hd') hd
      rw [List.nil_append]
      have hw := to32_ev (str bs') (by rw [str_size]; omega) ds (by rw [nats_str (hd.lt (signBits _ _ _))]; exact he)
      refine Ev.congr (fun k => ?_) (Ev.bind hw (f := fun k t123 => (if t123.toList = t.toList then (some (str bs', true)) else (some ((⟨#[]⟩ : ByteArray), false)))) ?_)
      · unfold ofFin
        rw [if_pos (by decide), if_neg (by decide)]
      · refine Ev.congr (fun k => ?_) (Ev.now _)
        by_cases e : str (ds.map sg) = t
        · rw [if_pos (toList_inj.2 e), if_pos e]
        · rw [if_neg (fun h => e (toList_inj.1 h)), if_neg e]) (fun h => absurd hall h)
  refine Ev.congr (fun k => ?_) (Ev.step (g := fun k => bulletinref05_Of.j0 k t 32 5) (fun k => ?_) this)
  · unfold bulletinref05_Of.f
    rw [if_neg (by decide)]
  · conv => lhs; unfold bulletinref05_Of.j0
    rfl
theorem of32_bad (t : ByteArray) (ht : t.size ≤ 100000) (hbad : ¬ ∀ c ∈ nats t, 0 ≤ sv S32 c) : Ev (fun k => bulletinref05_Of.f k t 32) (⟨#[]⟩, false) := by
  have := of_loop S32 5 32 (by decide) (by decide) S32_size value32 t (⟨#[]⟩, false) ht (nats t) [] [] [] rfl Bits.nil (by simp) (by simp) (fun h => absurd h hbad) (fun _ => rfl)
  refine Ev.congr (fun k => ?_) (Ev.step (g := fun k => bulletinref05_Of.j0 k t 32 5) (fun k => ?_) this)
  · unfold bulletinref05_Of.f
    rw [if_neg (by decide)]
  · conv => lhs; unfold bulletinref05_Of.j0
    rfl
theorem of16_good (t : ByteArray) (ht : t.size ≤ 100000) (hall : ∀ c ∈ nats t, 0 ≤ sv S16 c) (bs ds : List Nat) (hd : Dec ((nats t).flatMap fun c => bitsN 4 (sv S16 c).toNat) bs) (he : Enc 4 (bitsB bs) ds) :
    Ev (fun k => bulletinref05_Of.f k t 16) (if str (ds.map hx) = t then (str bs, true) else (⟨#[]⟩, false)) := by
  have hbl := hd.length_le
  have hsl := signBits_length S16 4 (by decide) t
  have := of_loop S16 4 16 (by decide) (by decide) S16_size value16 t (if str (ds.map hx) = t then (str bs, true) else (⟨#[]⟩, false)) ht (nats t) [] [] [] rfl Bits.nil (by simp) (by simp)
    (fun _ bs' hd' => by
      obtain rfl := dec_det (by simpa using hd') hd
      rw [List.nil_append]
      have hw := to16_ev (str bs') (by rw [str_size]; omega) ds (by rw [nats_str (hd.lt (signBits _ _ _))]; exact he)
      refine Ev.congr (fun k => ?_) (Ev.bind hw (f := fun k t125 => (if t125.toList = t.toList then (some (str bs', true)) else (some ((⟨#[]⟩ : ByteArray), false)))) ?_)
      · unfold ofFin
        rw [if_neg (by decide), if_pos (by decide)]
      · refine Ev.congr (fun k => ?_) (Ev.now _)
        by_cases e : str (ds.map hx) = t
        · rw [if_pos (toList_inj.2 e), if_pos e]
        · rw [if_neg (fun h => e (toList_inj.1 h)), if_neg e]) (fun h => absurd hall h)
  refine Ev.congr (fun k => ?_) (Ev.step (g := fun k => bulletinref05_Of.j0 k t 16 4) (fun k => ?_) this)
  · unfold bulletinref05_Of.f
    rw [if_pos (by decide)]
  · conv => lhs; unfold bulletinref05_Of.j0
    rfl
theorem of16_bad (t : ByteArray) (ht : t.size ≤ 100000) (hbad : ¬ ∀ c ∈ nats t, 0 ≤ sv S16 c) : Ev (fun k => bulletinref05_Of.f k t 16) (⟨#[]⟩, false) := by
  have := of_loop S16 4 16 (by decide) (by decide) S16_size value16 t (⟨#[]⟩, false) ht (nats t) [] [] [] rfl Bits.nil (by simp) (by simp) (fun h => absurd h hbad) (fun _ => rfl)
  refine Ev.congr (fun k => ?_) (Ev.step (g := fun k => bulletinref05_Of.j0 k t 16 4) (fun k => ?_) this)
  · unfold bulletinref05_Of.f
    rw [if_pos (by decide)]
  · conv => lhs; unfold bulletinref05_Of.j0
    rfl
end Go.Proofs.Ytomdihpleoipkaa.Sem
