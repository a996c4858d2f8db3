/- CodeSigns, in plain words: for any s and t the program's signs of s and bytes of t, and whether there are any, are the reference's. No condition. -/
import Derived.Test.YtomdihpleoipkaaPCx2
import Derived.Test.YtomdihpleoipkaaSem4
namespace Go.Proofs.Ytomdihpleoipkaa.Pure
open Go.RowKit Go.Proofs.Ytomdihpleoipkaa.PC Go.Proofs.YtomdihpleoipkaaW.PrintWords Go.Proofs.YtomdihpleoipkaaW.PrintLast Go.Proofs.Ytomdihpleoipkaa.Sem Go.Proofs.Ytomdihpleoipkaa.Math
set_option linter.unusedVariables false

set_option maxRecDepth 100000 in
theorem works_ev : Ev (fun k => bulletinlaw05_works.f k) true :=
  Ev.of (k := 200) bulletinlaw05_works.mono (by decide +kernel)
theorem of32_of {t : ByteArray} {r : ByteArray × Int} (h : Ev (fun k => code_read.f k t S32 (5 : Nat)) r) : Ev (fun k => code_Of32.f k t) r :=
  Ev.congr (f := fun k => (code_read.f k t S32 5).bind fun b => some (b.1, b.2)) (fun _ => rfl) (Ev.bind h (f := fun _ b => some (b.1, b.2)) (Ev.now _))
theorem of16_of {t : ByteArray} {r : ByteArray × Int} (h : Ev (fun k => code_read.f k t S16 (4 : Nat)) r) : Ev (fun k => code_Of16.f k t) r :=
  Ev.congr (f := fun k => (code_read.f k t S16 4).bind fun b => some (b.1, b.2)) (fun _ => rfl) (Ev.bind h (f := fun _ b => some (b.1, b.2)) (Ev.now _))
theorem to32_of {s r : ByteArray} (h : Ev (fun k => code_write.f k s S32 (5 : Nat)) r) : Ev (fun k => code_To32.f k s) r :=
  Ev.congr (f := fun k => (code_write.f k s S32 5).bind fun b => some b) (fun _ => rfl) (Ev.bind h (f := fun _ b => some b) (Ev.now _))
theorem to16_of {s r : ByteArray} (h : Ev (fun k => code_write.f k s S16 (4 : Nat)) r) : Ev (fun k => code_To16.f k s) r :=
  Ev.congr (f := fun k => (code_write.f k s S16 4).bind fun b => some b) (fun _ => rfl) (Ev.bind h (f := fun _ b => some b) (Ev.now _))
/-- Both read alike. -/
theorem both32 (t : ByteArray) (ht : t.size ≤ 500) : ∃ (x : ByteArray) (ok : Bool), Ev (fun k => code_Of32.f k t) (x, if ok then 0 else 3) ∧ Ev (fun k => bulletinref05_Of.f k t 32) (x, ok) := by
  by_cases hall : ∀ c ∈ nats t, 0 ≤ sv S32 c
  · obtain ⟨bs, hd⟩ := Dec.total _ ((nats t).flatMap fun c => bitsN 5 (sv S32 c).toNat) (Nat.le_refl _)
    obtain ⟨ds, he⟩ := Enc.total (w := 5) (by decide) _ (bitsB bs) (Nat.le_refl _)
    have h1 := read_good S32 5 (by decide) (by decide) S32_size t (by omega) hall bs ds hd he
    have h2 := of32_good t (by omega) hall bs ds hd he
    rw [signs32 ds (he.lt (bits_bitsB bs))] at h1
    by_cases e : str (ds.map sg) = t
    · rw [if_pos e] at h1 h2
      exact ⟨_, true, of32_of h1, h2⟩
    · rw [if_neg e] at h1 h2
      exact ⟨_, false, of32_of h1, h2⟩
  · have h1 := read_bad S32 5 (by decide) (by decide) S32_size t (by omega) hall
    exact ⟨_, false, of32_of h1, of32_bad t (by omega) hall⟩
theorem both16 (t : ByteArray) (ht : t.size ≤ 500) : ∃ (x : ByteArray) (ok : Bool), Ev (fun k => code_Of16.f k t) (x, if ok then 0 else 3) ∧ Ev (fun k => bulletinref05_Of.f k t 16) (x, ok) := by
  by_cases hall : ∀ c ∈ nats t, 0 ≤ sv S16 c
  · obtain ⟨bs, hd⟩ := Dec.total _ ((nats t).flatMap fun c => bitsN 4 (sv S16 c).toNat) (Nat.le_refl _)
    obtain ⟨ds, he⟩ := Enc.total (w := 4) (by decide) _ (bitsB bs) (Nat.le_refl _)
    have h1 := read_good S16 4 (by decide) (by decide) S16_size t (by omega) hall bs ds hd he
    have h2 := of16_good t (by omega) hall bs ds hd he
    rw [signs16 ds (he.lt (bits_bitsB bs))] at h1
    by_cases e : str (ds.map hx) = t
    · rw [if_pos e] at h1 h2
      exact ⟨_, true, of16_of h1, h2⟩
    · rw [if_neg e] at h1 h2
      exact ⟨_, false, of16_of h1, h2⟩
  · have h1 := read_bad S16 4 (by decide) (by decide) S16_size t (by omega) hall
    exact ⟨_, false, of16_of h1, of16_bad t (by omega) hall⟩
theorem to32_both (s : ByteArray) (hs : s.size ≤ 1000000) : ∃ r, Ev (fun k => code_To32.f k s) r ∧ Ev (fun k => bulletinref05_To32.f k s) r := by
  obtain ⟨ds, he⟩ := Enc.total (w := 5) (by decide) _ (bitsB (nats s)) (Nat.le_refl _)
  have h1 := write_ev S32 5 (by decide) (by decide) S32_size s hs ds he
  rw [signs32 ds (he.lt (bits_bitsB _))] at h1
  exact ⟨_, to32_of h1, to32_ev s hs ds he⟩
theorem to16_both (s : ByteArray) (hs : s.size ≤ 1000000) : ∃ r, Ev (fun k => code_To16.f k s) r ∧ Ev (fun k => bulletinref05_To16.f k s) r := by
  obtain ⟨ds, he⟩ := Enc.total (w := 4) (by decide) _ (bitsB (nats s)) (Nat.le_refl _)
  have h1 := write_ev S16 4 (by decide) (by decide) S16_size s hs ds he
  rw [signs16 ds (he.lt (bits_bitsB _))] at h1
  exact ⟨_, to16_of h1, to16_ev s hs ds he⟩
theorem says_eq (ok : Bool) : bulletinlaw05_says.f ok = some (if ok then 0 else 3) := by cases ok <;> rfl

theorem CodeSigns : bulletinlaw05_CodeSigns.Pure := by
  intro s t _ _
  have hw : Ev (fun k => (bulletinlaw05_works.f k).bind fun t126 => some t126) true := Ev.bind works_ev (Ev.now _)
  suffices h : Ev (fun k => bulletinlaw05_CodeSigns.f k s t) true from h.rounds
  have big : Ev (fun k => bulletinlaw05_CodeSigns.j0 k s t true) true := by
    refine Ev.step (fun k => ?_) hw
    simp only [bulletinlaw05_CodeSigns.j0, if_true]
  by_cases h1 : (s.size : Int) > 500
  · exact Ev.congr (fun k => by unfold bulletinlaw05_CodeSigns.f; rw [if_pos h1]) big
  by_cases h2 : (t.size : Int) > 500
  · exact Ev.congr (fun k => by unfold bulletinlaw05_CodeSigns.f; rw [if_neg h1, decide_eq_true h2]) big
  refine Ev.congr (f := fun k => bulletinlaw05_CodeSigns.j0 k s t false) (fun k => by unfold bulletinlaw05_CodeSigns.f; rw [if_neg h1, decide_eq_false h2]) ?_
  obtain ⟨x, ok, a1, a2⟩ := both32 t (by omega)
  obtain ⟨y, is, b1, b2⟩ := both16 t (by omega)
  obtain ⟨u, c1, c2⟩ := to32_both s (by omega)
  obtain ⟨v, d1, d2⟩ := to16_both s (by omega)
  refine Ev.step (fun k => by simp only [bulletinlaw05_CodeSigns.j0, Bool.false_eq_true, if_false]; rfl) ?_
  refine Ev.bind a1 (Ev.bind a2 (Ev.bind b1 (Ev.bind b2 (Ev.bind c1 (Ev.bind c2 ?_)))))
  refine Ev.congr (fun k => if_pos rfl) (Ev.bind d1 (Ev.bind d2 ?_))
  refine Ev.congr (fun k => ?_) hw
  simp only [if_true, says_eq, Option.bind_some]

end Go.Proofs.Ytomdihpleoipkaa.Pure
