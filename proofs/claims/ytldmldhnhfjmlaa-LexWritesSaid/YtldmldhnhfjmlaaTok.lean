/- A slice of tokens that comes in as an argument, opened to the walk's own reading. Condition: its elements are structs of a whole number and a text. -/
import Derived.Test.YtldmldhnhfjmlaaPLx11
import Derived.Deep.SlicePairs
namespace Go.Proofs.Ytldmldhnhfjmlaa.Tok
open Go.ChangeShapes Go.WideShapes Go.Deep Go.RowKit Go.Proofs.Ytldmldhnhfjmlaa.PL Go.Proofs.YtldmldhnhfjmlaaW.PrintWords
set_option linter.unusedVariables false

section
variable {H : Type} {enc : TypeId × Value → H} {P : Program} {w : World} {base : Nat} {spare : Nat → Bool} {held : Bool}
/-- The tokens that a slice leads to. -/
theorem open_tokens {t e : TypeId} {f0 f1 : Field} {A : Option Addr} {len cap : Nat} {d : DataW H} {p : List MemPlace} (ht : P.underlying t = some (.slice e)) (he : P.underlying e = some (.struct #[f0, f1]))
    (hC : P.cellsOf e = 2) (o0 : f0.offset = 0) (o1 : f1.offset = 1) (k0 : P.cellsOf f0.type = 1) (k1 : P.cellsOf f1.type = 1) (u0 : P.underlying f0.type = some (.int .i64)) (u1 : P.underlying f1.type = some .string)
    (h : DataW.Trod enc P w base (fun _ => true) held t (.slice A len cap) d p) : ∃ xs : List S37, xs.length = len ∧ len ≤ cap ∧ Kd.C k37 w A len xs := by
  obtain ⟨fuel, hf⟩ := h
  rcases open_slice_pairs ht he hC o0 o1 k0 k1 hf with ⟨hcs, _⟩ | ⟨a, l, c, m, n, V0, V1, D0, D1, P0, P1, hcs, hb, hl, hm, hmm, hx, hi⟩
  · simp [Value.cells] at hcs
    obtain ⟨rfl, rfl, rfl⟩ := hcs
    exact ⟨[], rfl, Nat.le_refl _, rfl, by omega, fun h => by omega⟩
  · simp [Value.cells] at hcs
    obtain ⟨rfl, rfl, rfl⟩ := hcs
    rw [if_pos rfl] at hmm
    subst hmm
    have each : ∀ i, i < len → ∃ y : S37, w.cell? (a.add (i * 2)) = some (.int .i64 y.f0) ∧ w.cell? (a.add (i * 2 + 1)) = some (.string y.f1) := by
      intro i hil
      obtain ⟨c0, c1, t0, t1⟩ := hi i (by omega)
      obtain ⟨x0, e0, _, _⟩ := DataW.trod_int u0 t0
      obtain ⟨x1, e1, _, _⟩ := DataW.trod_string u1 t1
      rw [List.singleton_inj.1 e0] at c0
      rw [List.singleton_inj.1 e1] at c1
      exact ⟨⟨x0, x1⟩, c0, c1⟩
    have all : ∀ n, n ≤ len → ∃ xs : List S37, xs.length = n ∧ ∀ j y, xs[j]? = some y → w.cell? (a.add (j * 2)) = some (.int .i64 y.f0) ∧ w.cell? (a.add (j * 2 + 1)) = some (.string y.f1) := by
      intro n
      induction n with
      | zero => intro _; exact ⟨[], rfl, fun j y h => by simp at h⟩
      | succ n ih =>
        intro hn
        obtain ⟨xs, hxl, hxs⟩ := ih (by omega)
        obtain ⟨y, hy⟩ := each n (by omega)
        refine ⟨xs ++ [y], by simp [hxl], fun j z hz => ?_⟩
        rcases Nat.lt_trichotomy j n with h | h | h
        · rw [List.getElem?_append_left (by omega)] at hz
          exact hxs j z hz
        · subst h
          rw [List.getElem?_append_right (by omega), hxl, Nat.sub_self] at hz
          cases hz
          exact hy
        · rw [List.getElem?_eq_none (by rw [List.length_append, List.length_singleton]; omega)] at hz
          cases hz
    obtain ⟨xs, hxl, hxs⟩ := all len (Nat.le_refl _)
    refine ⟨xs, hxl, hl, hxl, ?_, fun _ => ⟨a, rfl, fun j y hj => ⟨[.int .i64 y.f0, .string y.f1], rfl, k37_mk w y, fun i u hu => ?_⟩⟩⟩
    · have : maxLen ≤ 9223372036854775807 := by decide
      omega
    · match i, hu with
      | 0, hu => cases hu; exact (hxs j y hj).1
      | 1, hu => cases hu; exact (hxs j y hj).2
end
end Go.Proofs.Ytldmldhnhfjmlaa.Tok
