/- The contracts of strings.Builder's methods in this program: what is written is appended to what the builder holds, and nothing that was there before the call's own memory changes. Condition: what it holds stays within 2^47 bytes. -/
import Derived.Test.YtldmldhnhfjmlaaProg
import Derived.Test.YtldmldhnhfjmlaaShelf
import Derived.Shelf.Strings.BuilderK
import Derived.Test.YtldmldhnhfjmlaaWWords
import Derived.Test.YtldmldhnhfjmlaaWLast
import Derived.Test.YtldmldhnhfjmlaaWMore
import Derived.WalkKit
import Derived.KernelRfl
namespace Go.Proofs.Ytldmldhnhfjmlaa.Bld
open Go.RowKit Go.Proofs.YtldmldhnhfjmlaaW.PrintWords Go.Shelf
set_option linter.unusedVariables false
set_option linter.unusedSimpArgs false

theorem sizeBuilder : (Try.prog.info? 50).map (·.size) = some 2 := by kernel_rfl
theorem liesBuilder : liesAt Try.prog Try.prog.depth 50 (2 / Try.prog.cellsOf 50) 0 50 1 = true := by kernel_rfl
theorem infoByte : (Try.prog.info? 5).map (fun i => (i.zero, i.size, i.bytes)) = some (some (.int .u8 0), 1, 1) := by kernel_rfl
theorem fnNoEscape : Try.prog.funcs[40]? = some Try.f40 := by kernel_rfl

set_option maxHeartbeats 1000000 in
set_option maxRecDepth 100000 in
theorem copyCheck_fresh (b : Nat) (w : World) (h0 : w.cell? ⟨b, 0, none⟩ = some (.pointer none)) (hsh : w.shape? b = some (50, 2)) (hfz : w.frozen? ⟨b, 0, none⟩ = false) :
    Calls Try.prog 37 #[.pointer (some ⟨b, 0, none⟩)] w fun e w' => e = .returned (.tuple #[]) ∧ w' = w.setCell ⟨b, 0, none⟩ (.pointer (some ⟨b, 0, none⟩)) := by
  obtain ⟨j, hj, hjs⟩ := Option.map_eq_some_iff.1 sizeBuilder
  go_enter Try.func37, Try.ntmps37
  go_wp2
  rw [Lib.run_to_unsafe w ⟨b, 0, none⟩ Try.underlying47 Try.underlying62 hj (by rw [hjs]; decide) hsh (Nat.zero_lt_succ 1)]
  simp only [Result.andThen]
  rw [Oper.upon_value]
  go_wp2
  rw [run_callFunc_extern fnNoEscape (by kernel_rfl) (by kernel_rfl) (by kernel_rfl) (e := Extern.AbiNoEscape.same) (by kernel_rfl)]
  rw [Lib.run_noEscape]
  simp only [Result.andThen]
  rw [Oper.upon_value]
  go_wp2
  rw [Lib.run_from_unsafe w ⟨b, 0, none⟩ Try.underlying62 Try.underlying47 hj hsh liesBuilder]
  simp only [Result.andThen]
  rw [Oper.upon_value]
  go_wp2
  go_end0
  exact ⟨rfl, rfl⟩

set_option maxHeartbeats 1000000 in
set_option maxRecDepth 100000 in
theorem copyCheck_used (b : Nat) (w : World) (h0 : w.cell? ⟨b, 0, none⟩ = some (.pointer (some ⟨b, 0, none⟩))) :
    Calls Try.prog 37 #[.pointer (some ⟨b, 0, none⟩)] w fun e w' => e = .returned (.tuple #[]) ∧ w' = w := by
  obtain ⟨j, hj, hjs⟩ := Option.map_eq_some_iff.1 sizeBuilder
  have hne := Lib.run_neq_ptr_same (P := Try.prog) w ⟨b, 0, none⟩ Try.underlying47 hj
  go_enter Try.func37, Try.ntmps37
  go_wp2
  go_end0
  exact ⟨rfl, rfl⟩

theorem copyCheck (B b : Nat) (bs : List Value) (w : World) (h : Lib.IsBuilderF 50 5 B b bs w) :
    Calls Try.prog 37 #[.pointer (some ⟨b, 0, none⟩)] w fun e w' => e = .returned (.tuple #[]) ∧ (Lib.BuilderAtF 50 5 B b (.pointer (some ⟨b, 0, none⟩)) bs w' ∧ Below B w w' ∧ Lib.OthersKept 5 (some b) w w') := by
  rcases h with h | h
  · refine (copyCheck_fresh b w h.cell0 h.shape h.frozen0).mono ?_
    rintro e w' ⟨rfl, rfl⟩
    exact ⟨rfl, h.used _, (Below.refl B w).setCell (p := ⟨b, 0, none⟩) h.1 _, (Lib.OthersKept.refl _ _ w).setCell ⟨b, 0, none⟩ rfl _⟩
  · refine (copyCheck_used b w h.cell0).mono ?_
    rintro e w' ⟨rfl, rfl⟩
    exact ⟨rfl, h, Below.refl B _, Lib.OthersKept.refl _ _ _⟩

set_option maxHeartbeats 2000000 in
set_option maxRecDepth 100000 in
theorem writeByte_at (B b : Nat) (bs : List Value) (c : Int) (w : World) (h : Lib.IsBuilderF 50 5 B b bs w) (hlen : bs.length + 1 ≤ 140737488355328) (hBw : B ≤ w.heap.size) :
    Calls Try.prog 27 #[.pointer (some ⟨b, 0, none⟩), .int .u8 c] w fun e w' => e = .returned .nilIface ∧ (Lib.BuilderAtF 50 5 B b (.pointer (some ⟨b, 0, none⟩)) (bs ++ [.int .u8 c]) w' ∧ Below B w w' ∧ Lib.OthersKept 5 (some b) w w') := by
  obtain ⟨i0, hi, hz0, hz1, hz2⟩ := info_parts infoByte
  go_enter Try.func27, Try.ntmps27
  go_wp2_with (go_at_call 37; refine (copyCheck B b bs _ h).mono ?_)
  rintro e w1 ⟨rfl, h1, hb1, hk1⟩
  obtain ⟨hB, v, hbk, hown, hne⟩ := h1
  have c0 : w1.cell? ⟨b, 0, none⟩ = some (.pointer (some ⟨b, 0, none⟩)) := by rw [Lib.cell_of_heap hbk]; rfl
  have c1 : w1.cell? ⟨b, 1, none⟩ = some v := by rw [Lib.cell_of_heap hbk]; rfl
  go_wp2_with (at_builtin; refine wpList_append_ownF _ rfl _ _ 48 rfl B 5 i0 (.int .u8 0) 1 1 Try.underlying48 hi hz0 hz1 hz2 rfl (by decide) _ _ _ rfl (hown.alloc _) ⟨w1.heap.size, 0, none⟩ 1 1 [.int .u8 c] rfl rfl ?c1 ?c2 ?c3 ?c4 ?c5 ?_)
  case c1 =>
    intro j u hj
    match j, hj with
    | 0, hj => simp at hj; subst hj; simp [Addr.add]
  case c2 => intro u hu; simp at hu; subst hu; rfl
  case c3 => unfold maxLen; omega
  case c4 => omega
  case c5 => have := hb1.size; simp; omega
  intro v' w2 hown' hgrow _
  have hlt : b < w1.heap.size := by
    rcases Nat.lt_or_ge b w1.heap.size with h' | h'
    · exact h'
    · simp [Array.getElem?_eq_none h'] at hbk
  have hb2 : w2.heap[b]? = some (.cells #[.pointer (some ⟨b, 0, none⟩), v] 50 (0, 0)) := by
    rw [hgrow.block b (by simp; omega) (fun e => hne e.symm), Lib.alloc_old w1 _ b hlt]
    exact hbk
  have d0 : w2.cell? ⟨b, 0, none⟩ = some (.pointer (some ⟨b, 0, none⟩)) := by rw [Lib.cell_of_heap hb2]; rfl
  have d1 : w2.cell? ⟨b, 1, none⟩ = some v := by rw [Lib.cell_of_heap hb2]; rfl
  have f1 : w2.frozen? ⟨b, 1, none⟩ = false := Lib.frozen_of_heap hb2 1
  obtain ⟨g, cap, rfl⟩ : ∃ g cap, v' = .slice (some ⟨g, 0, none⟩) (bs.length + 1) cap := by
    rcases hown'.2 with ⟨_, h0⟩ | ⟨g, cap, cur, fz, hv, _⟩
    · omega
    · exact ⟨g, cap, hv⟩
  go_wp2
  go_ret
  refine ⟨rfl, ?_, ?_, ((hk1.alloc _).grown hgrow (Lib.ownsRowF_kind (hown.alloc _))).setCell ⟨b, 1, none⟩ rfl _⟩
  · exact Lib.BuilderAtF.put (T := 50) (e := 5) hB hb2 (bs' := bs ++ [.int .u8 c]) (by simpa using hown') (by decide)
  · exact ((hb1.alloc (by have := hb1.size; omega) _).grown hgrow (by have := hb1.size; simp; omega) (fun k hk => (hown.lt k hk).1)).setCell (p := ⟨b, 1, none⟩) hB _

set_option maxHeartbeats 2000000 in
set_option maxRecDepth 100000 in
theorem writeString_at (B b : Nat) (bs : List Value) (s : ByteArray) (w : World) (h : Lib.IsBuilderF 50 5 B b bs w) (hlen : bs.length + s.size ≤ 140737488355328) (hBw : B ≤ w.heap.size) :
    Calls Try.prog 28 #[.pointer (some ⟨b, 0, none⟩), .string s] w fun e w' => e = .returned (.tuple #[.int .i64 s.size, .nilIface]) ∧ (Lib.BuilderAtF 50 5 B b (.pointer (some ⟨b, 0, none⟩)) (bs ++ Lib.strCells s) w' ∧ Below B w w' ∧ Lib.OthersKept 5 (some b) w w') := by
  obtain ⟨i0, hi, hz0, hz1, hz2⟩ := info_parts infoByte
  go_enter Try.func28, Try.ntmps28
  go_wp2_with (go_at_call 37; refine (copyCheck B b bs _ h).mono ?_)
  rintro e w1 ⟨rfl, h1, hb1, hk1⟩
  obtain ⟨hB, v, hbk, hown, hne⟩ := h1
  have c0 : w1.cell? ⟨b, 0, none⟩ = some (.pointer (some ⟨b, 0, none⟩)) := by rw [Lib.cell_of_heap hbk]; rfl
  have c1 : w1.cell? ⟨b, 1, none⟩ = some v := by rw [Lib.cell_of_heap hbk]; rfl
  go_wp2_with (at_builtin; refine Lib.wpList_append_own_stringF _ rfl _ _ 48 9 rfl B 5 i0 Try.underlying48 Try.underlying9 hi hz0 hz1 hz2 _ _ _ rfl hown s rfl ?c3 ?c4 ?c5 ?_)
  case c3 => unfold maxLen; omega
  case c4 => omega
  case c5 => have := hb1.size; omega
  intro v' w2 hown' hgrow _
  have hlt : b < w1.heap.size := by
    rcases Nat.lt_or_ge b w1.heap.size with h' | h'
    · exact h'
    · simp [Array.getElem?_eq_none h'] at hbk
  have hb2 : w2.heap[b]? = some (.cells #[.pointer (some ⟨b, 0, none⟩), v] 50 (0, 0)) := by
    rw [hgrow.block b hlt (fun e => hne e.symm)]
    exact hbk
  have d0 : w2.cell? ⟨b, 0, none⟩ = some (.pointer (some ⟨b, 0, none⟩)) := by rw [Lib.cell_of_heap hb2]; rfl
  have d1 : w2.cell? ⟨b, 1, none⟩ = some v := by rw [Lib.cell_of_heap hb2]; rfl
  have f1 : w2.frozen? ⟨b, 1, none⟩ = false := Lib.frozen_of_heap hb2 1
  obtain ⟨ao, n', cap, rfl⟩ : ∃ ao n' cap, v' = .slice ao n' cap := by
    rcases hown'.2 with ⟨hv, _⟩ | ⟨g, cap, cur, fz, hv, _⟩
    · exact ⟨_, _, _, hv⟩
    · exact ⟨_, _, _, hv⟩
  go_wp2
  go_ret2
  refine ⟨rfl, ?_, ?_, (hk1.grown hgrow (Lib.ownsRowF_kind hown)).setCell ⟨b, 1, none⟩ rfl _⟩
  · exact Lib.BuilderAtF.put (T := 50) (e := 5) hB hb2 (bs' := bs ++ Lib.strCells s) (by simpa [Lib.strCells_length] using hown') (by decide)
  · exact (hb1.grown hgrow (by have := hb1.size; omega) (fun k hk => (hown.lt k hk).1)).setCell (p := ⟨b, 1, none⟩) hB _

/-! ### What a walk is handed: a builder that holds the bytes xs, in block b, one of the call's own (from B on) -/
structure Holds (B b : Nat) (xs : List Int) (w : World) : Prop where
  out : Lib.IsBuilderF 50 5 B b (nums .u8 xs) w
  rng : ∀ x ∈ xs, 0 ≤ x ∧ x < 256

theorem Holds.fresh (w : World) : Holds w.heap.size w.heap.size [] (w.alloc (.cells #[.pointer none, .slice none 0 0] 50)) :=
  ⟨.inl ⟨Nat.le_refl _, .slice none 0 0, heap_alloc_new w _, World.ownsRowF_nil _ _ _ _, by simp [Value.ownBlock]⟩, fun x h => by cases h⟩
theorem Holds.drew {B b : Nat} {xs : List Int} {w : World} (h : Holds B b xs w) : Holds B b xs w.drew := ⟨h.out.imp (fun h => h.drew) (fun h => h.drew), h.rng⟩
theorem Holds.drewN {B b : Nat} {xs : List Int} {w : World} (h : Holds B b xs w) (n : Nat) : Holds B b xs (w.drewN n) := ⟨h.out, h.rng⟩
theorem Holds.alloc {B b : Nat} {xs : List Int} {w : World} (h : Holds B b xs w) (o : Obj) : Holds B b xs (w.alloc o) := ⟨h.out.imp (fun h => h.alloc o) (fun h => h.alloc o), h.rng⟩
theorem Holds.below {B b : Nat} {xs : List Int} {w w1 : World} (h : Holds B b xs w) (hb : Below w.heap.size w w1) : Holds B b xs w1 := by
  have key : ∀ p, Lib.BuilderAtF 50 5 B b p (nums .u8 xs) w → Lib.BuilderAtF 50 5 B b p (nums .u8 xs) w1 := by
    intro p hp
    have hlt := hp.lt
    obtain ⟨hB, v, hbk, hown, hne⟩ := hp
    exact ⟨hB, v, (hb.block b hlt).trans hbk, hown.kept (grown_of_below hb none) (by cases v.ownBlock <;> simp), hne⟩
  exact ⟨h.out.imp (key _) (key _), h.rng⟩

/-- The builder's own block is another than one of a type that is neither the builder's nor a byte's. -/
theorem Holds.ne_blk {B b g : Nat} {xs : List Int} {w : World} (h : Holds B b xs w) {cs : Array Value} {T : TypeId} {fr : Nat × Nat} (hg : w.heap[g]? = some (.cells cs T fr)) (hT : T ≠ 50) : g ≠ b := by
  rintro rfl
  have key : ∀ p, ¬ Lib.BuilderAtF 50 5 B g p (nums .u8 xs) w := by
    rintro p ⟨_, v, hb, _⟩
    rw [hg] at hb
    simp only [Option.some.injEq, Obj.cells.injEq] at hb
    exact hT hb.2.1
  exact h.out.elim (key _) (key _)
theorem Holds.kept {B b g : Nat} {xs : List Int} {w w1 : World} (h : Holds B b xs w) (hk : Lib.OthersKept 5 (some b) w w1) {cs : Array Value} {T : TypeId} {fr : Nat × Nat} (hg : w.heap[g]? = some (.cells cs T fr)) (hT : T ≠ 50) (h5 : T ≠ 5) : w1.heap[g]? = some (.cells cs T fr) :=
  hk g _ hg (fun e => h.ne_blk hg hT (Option.some.inj e)) (fun c fz e => by simp only [Obj.cells.injEq] at e; exact h5 e.2.1)
theorem Holds.far {B b : Nat} {xs : List Int} {w : World} (h : Holds B b xs w) (p : Addr) {cs : Array Value} {T : TypeId} {fr : Nat × Nat} (hg : w.heap[p.block]? = some (.cells cs T fr)) (hT : T ≠ 50) (h5 : T ≠ 5) (x : Value) : Holds B b xs (w.setCell p x) := by
  have hne := h.ne_blk hg hT
  have key : ∀ q, Lib.BuilderAtF 50 5 B b q (nums .u8 xs) w → Lib.BuilderAtF 50 5 B b q (nums .u8 xs) (w.setCell p x) := by
    rintro q ⟨hB, v, hb, hown, hv⟩
    refine ⟨hB, v, ?_, ?_, hv⟩
    · rw [Below.heap_setCell _ _ _ _ (fun e => hne e.symm)]; exact hb
    · refine hown.kept (row := some p.block) ⟨rfl, rfl, rfl, by simp [World.setCell], fun k _ hk => Below.heap_setCell _ _ _ _ (fun e => hk (by simp [e]))⟩ ?_
      refine Or.inr fun e => ?_
      obtain ⟨c, fz, hc⟩ := Lib.ownsRowF_kind hown p.block e
      rw [hg] at hc
      simp only [Option.some.injEq, Obj.cells.injEq] at hc
      exact h5 hc.2.1
  exact ⟨h.out.imp (key _) (key _), h.rng⟩
theorem Holds.far_two {B b g : Nat} {xs : List Int} {w : World} (h : Holds B b xs w) {c0 c1 : Value} {T : TypeId} (hg : w.heap[g]? = some (.cells #[c0, c1] T (0, 0))) (hT : T ≠ 50) (h5 : T ≠ 5) (x y : Value) : Holds B b xs ((w.setCell ⟨g, 0, none⟩ x).setCell ⟨g, 1, none⟩ y) :=
  (h.far ⟨g, 0, none⟩ hg hT h5 x).far ⟨g, 1, none⟩ (cs := #[x, c1]) (fr := (0, 0)) (by simp [World.setCell, Array.getElem?_modify, hg]) hT h5 y

theorem byteCells_of (xs : List Int) (h : ∀ x ∈ xs, 0 ≤ x ∧ x < 256) : Lib.byteCells (strOfNums xs).data.toList = nums .u8 xs := by
  induction xs with
  | nil => rfl
  | cons x xs ih =>
    have hx := h x (by simp)
    have := ih (fun y hy => h y (by simp [hy]))
    simp only [nums, List.map_cons] at this ⊢
    simp only [strOfNums, Lib.byteCells, List.map_cons, List.map_map] at this ⊢
    refine List.cons_eq_cons.mpr ⟨?_, by simpa using this⟩
    simp
    omega

theorem writeByte_k (B b : Nat) (xs : List Int) (c : Int) (w : World) (h : Holds B b xs w) (hc : 0 ≤ c ∧ c ≤ 255) (hlen : xs.length < 140737488355328) (hBw : B ≤ w.heap.size) :
    Calls Try.prog 27 #[.pointer (some ⟨b, 0, none⟩), .int .u8 c] w fun e w' => e = .returned .nilIface ∧ Holds B b (xs ++ [c]) w' ∧ Below B w w' ∧ Lib.OthersKept 5 (some b) w w' :=
  (writeByte_at B b _ c w h.out (by rw [nums_length]; omega) hBw).mono fun e w' ⟨h1, h2, h3, h4⟩ => ⟨h1, ⟨.inr (by simpa [nums] using h2), fun x hx => by
    rcases List.mem_append.1 hx with hx | hx
    · exact h.rng x hx
    · simp only [List.mem_singleton] at hx; omega⟩, h3, h4⟩
theorem writeByte (B b : Nat) (xs : List Int) (c : Int) (w : World) (h : Holds B b xs w) (hc : 0 ≤ c ∧ c ≤ 255) (hlen : xs.length < 140737488355328) (hBw : B ≤ w.heap.size) :
    Calls Try.prog 27 #[.pointer (some ⟨b, 0, none⟩), .int .u8 c] w fun e w' => e = .returned .nilIface ∧ Holds B b (xs ++ [c]) w' ∧ Below B w w' :=
  (writeByte_k B b xs c w h hc hlen hBw).mono fun e w' ⟨h1, h2, h3, _⟩ => ⟨h1, h2, h3⟩

theorem string_any (B b : Nat) (xs : List Int) (w : World) (h : Holds B b xs w) (hBw : B ≤ w.heap.size) :
    Calls Try.prog 29 #[.pointer (some ⟨b, 0, none⟩)] w fun e w' => e = .returned (.string (strOfNums xs)) ∧ Holds B b xs w' ∧ Below B w w' := by
  have hc := byteCells_of xs h.rng
  have h' := h.out
  rw [← hc] at h'
  refine (Try.Builder_String_any_k B b _ w h' hBw).mono ?_
  rintro e w' ⟨h1, h2, h3, _⟩
  rw [hc] at h2
  exact ⟨by rw [h1], ⟨h2, h.rng⟩, h3⟩

theorem writeString_k (B b : Nat) (xs : List Int) (s : ByteArray) (w : World) (h : Holds B b xs w) (hlen : xs.length + s.size < 140737488355328) (hBw : B ≤ w.heap.size) :
    Calls Try.prog 28 #[.pointer (some ⟨b, 0, none⟩), .string s] w fun e w' => e = .returned (.tuple #[.int .i64 s.size, .nilIface]) ∧ Holds B b (xs ++ bytesOf s) w' ∧ Below B w w' ∧ Lib.OthersKept 5 (some b) w w' := by
  refine (writeString_at B b _ s w h.out (by rw [nums_length]; omega) hBw).mono fun e w' ⟨h1, h2, h3, h4⟩ => ⟨h1, ⟨.inr ?_, ?_⟩, h3, h4⟩
  · have : nums .u8 (xs ++ bytesOf s) = nums .u8 xs ++ Lib.strCells s := by
      simp [nums, bytesOf, Lib.strCells]
    rw [this]
    exact h2
  · intro x hx
    rcases List.mem_append.1 hx with hx | hx
    · exact h.rng x hx
    · simp only [bytesOf, List.mem_map] at hx
      obtain ⟨y, _, rfl⟩ := hx
      have := y.toNat_lt
      omega

end Go.Proofs.Ytldmldhnhfjmlaa.Bld
