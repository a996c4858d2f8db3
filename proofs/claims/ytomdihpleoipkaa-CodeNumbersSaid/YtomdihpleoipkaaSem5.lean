/- The chapter's example; the program's functions by their contracts; numbers as eight bytes, their order. Conditions: of at most a hundred thousand bytes; numbers of 64 bits. -/
import Derived.Test.YtomdihpleoipkaaSem4
namespace Go.Proofs.Ytomdihpleoipkaa.Sem
open Go.RowKit Go.Proofs.Ytomdihpleoipkaa.PC Go.Proofs.YtomdihpleoipkaaW.PrintWords Go.Proofs.YtomdihpleoipkaaW.PrintLast Go.Proofs.YtomdihpleoipkaaW.PrintMore Go.Proofs.Ytomdihpleoipkaa.Math
set_option linter.unusedVariables false
set_option linter.unusedSectionVars false

set_option maxRecDepth 100000 in
theorem works_ev : Ev (fun k => bulletinlaw05_works.f k) true :=
  Ev.of (k := 200) bulletinlaw05_works.mono (by decide +kernel)
theorem of32_of {t : ByteArray} {r : ByteArray × Int} (h : Ev (fun k => code_read.f k t S32 (5 : Nat)) r) : Ev (fun k => code_Of32.f k t) r :=
  Ev.congr (f := fun k => (code_read.f k t S32 5).bind fun b => some (b.1, b.2)) (fun _ => rfl) (Ev.bind h (f := fun _ b => some (b.1, b.2)) (Ev.now _))
theorem of16_of {t : ByteArray} {r : ByteArray × Int} (h : Ev (fun k => code_read.f k t S16 (4 : Nat)) r) : Ev (fun k => code_Of16.f k t) r :=
  Ev.congr (f := fun k => (code_read.f k t S16 4).bind fun b => some (b.1, b.2)) (fun _ => rfl) (Ev.bind h (f := fun _ b => some (b.1, b.2)) (Ev.now _))
theorem to32_of {s r : ByteArray} (h : Ev (fun k => code_write.f k s S32 (5 : Nat)) r) : Ev (fun k => code_To32.f k s) r :=
  Ev.congr (f := fun k => (code_write.f k s S32 5).bind fun b => some b) (fun _ => rfl) (Ev.bind h (f := fun _ b => some b) (Ev.now _))
theorem to16_of {s r : ByteArray} (h : Ev (fun k => code_write.f k s S16 (4 : Nat)) r) : Ev (fun k => code_To16.f k s) r :=
  Ev.congr (f := fun k => (code_write.f k s S16 4).bind fun b => some b) (fun _ => rfl) (Ev.bind h (f := fun _ b => some b) (Ev.now _))

/-! ### There and back -/
theorem sg_back : ∀ d : Nat, d < 32 → sv S32 (sg d) = (d : Int) := by decide +kernel
theorem hx_back : ∀ d : Nat, d < 16 → sv S16 (hx d) = (d : Int) := by decide +kernel
theorem sg_lt (d : Nat) (h : d < 32) : sg d < 256 := by unfold sg; split <;> omega
theorem hx_lt (d : Nat) (h : d < 16) : hx d < 256 := by unfold hx; split <;> omega
section
variable (S : ByteArray) (w : Nat) (hw0 : 0 < w) (hw8 : w ≤ 8) (hS : S.size = 2 ^ w) (f : Nat → Nat) (hf : ∀ d, d < 2 ^ w → sv S (f d) = (d : Int)) (hlt : ∀ d, d < 2 ^ w → f d < 256) (hbt : ∀ d : Nat, d < 2 ^ w → bt S (d : Int) = ((f d : Nat) : Int))
include hw0 hw8 hS hf hlt hbt
theorem signs_eq (ds : List Nat) (h : ∀ d ∈ ds, d < 2 ^ w) : strOfNums (ds.map fun d => bt S (d : Nat)) = str (ds.map f) := by
  unfold str ints
  rw [List.map_map]
  congr 1
  exact List.map_congr_left fun d hd => hbt d (h d hd)
theorem write_back (s : ByteArray) (hs : s.size ≤ 10000) : ∃ u, Ev (fun k => code_write.f k s S (w : Nat)) u ∧ Ev (fun k => code_read.f k u S (w : Nat)) (s, 0) := by
  obtain ⟨ds, he⟩ := Enc.total hw0 _ (bitsB (nats s)) (Nat.le_refl _)
  have hds := he.lt (bits_bitsB _)
  have h1 := write_ev S w hw0 hw8 hS s (by omega) ds he
  have hlen : (bitsB (nats s)).length = 8 * s.size := by
    rw [← nats_length]
    generalize nats s = l
    induction l with
    | nil => rfl
    | cons c l ih => rw [show bitsB (c :: l) = bitsN 8 c ++ bitsB l from rfl, List.length_append, length_bitsN, ih, List.length_cons]; omega
  have hdl := he.length_le hw0
  rw [signs_eq S w hw0 hw8 hS f hf hlt hbt ds hds] at h1
  refine ⟨_, h1, ?_⟩
  have hn : nats (str (ds.map f)) = ds.map f := nats_str (fun x hx => by
    simp only [List.mem_map] at hx
    obtain ⟨d, hd, rfl⟩ := hx
    exact hlt d (hds d hd))
  have hbits : (nats (str (ds.map f))).flatMap (fun c => bitsN w (sv S c).toNat) = ds.flatMap (bitsN w) := by
    rw [hn]
    clear hn he h1 hdl
    induction ds with
    | nil => rfl
    | cons d ds ih =>
      rw [List.map_cons, List.flatMap_cons, List.flatMap_cons, hf d (hds d (by simp)), ih (fun x hx => hds x (by simp [hx]))]
      rfl
  have hd : Dec ((nats (str (ds.map f))).flatMap fun c => bitsN w (sv S c).toNat) (nats s) := by
    rw [hbits]
    obtain ⟨z, h | h⟩ := he.back (bits_bitsB _)
    · rw [h.2]
      exact Dec.of_bytes _ (nats_lt s) _ (by rw [List.length_replicate]; omega)
    · rw [h]
      have := Dec.of_bytes _ (nats_lt s) [] (by simp)
      rwa [List.append_nil] at this
  have h2 := read_good S w hw0 hw8 hS (str (ds.map f)) (by rw [str_size, List.length_map]; omega) (by
    rw [hn]
    intro c hc
    simp only [List.mem_map] at hc
    obtain ⟨d, hd, rfl⟩ := hc
    rw [hf d (hds d hd)]
    omega) (nats s) ds hd he
  rw [signs_eq S w hw0 hw8 hS f hf hlt hbt ds hds, if_pos rfl, str_nats] at h2
  exact h2
theorem read_back (t : ByteArray) (ht : t.size ≤ 10000) : (∃ x, Ev (fun k => code_read.f k t S (w : Nat)) (x, 0) ∧ Ev (fun k => code_write.f k x S (w : Nat)) t) ∨ Ev (fun k => code_read.f k t S (w : Nat)) (⟨#[]⟩, 3) := by
  by_cases hall : ∀ c ∈ nats t, 0 ≤ sv S c
  · obtain ⟨bs, hd⟩ := Dec.total _ ((nats t).flatMap fun c => bitsN w (sv S c).toNat) (Nat.le_refl _)
    obtain ⟨ds, he⟩ := Enc.total hw0 _ (bitsB bs) (Nat.le_refl _)
    have h1 := read_good S w hw0 hw8 hS t (by omega) hall bs ds hd he
    have hbl := hd.length_le
    have hsl := signBits_length S w hw8 t
    by_cases e : strOfNums (ds.map fun d => bt S (d : Nat)) = t
    · rw [if_pos e] at h1
      have h2 := write_ev S w hw0 hw8 hS (str bs) (by rw [str_size]; omega) ds (by rw [nats_str (hd.lt (signBits _ _ _))]; exact he)
      rw [e] at h2
      exact .inl ⟨_, h1, h2⟩
    · rw [if_neg e] at h1
      exact .inr h1
  · exact .inr (read_bad S w hw0 hw8 hS t (by omega) hall)
end
end Go.Proofs.Ytomdihpleoipkaa.Sem
