/- The functions of package code that hold a strings.Builder or an array, as plain Lean functions, and that the Go code comes to just these. No condition beyond the equation that the plain function answers. -/
import Derived.Test.YtomdihpleoipkaaBld
import Derived.Test.YtomdihpleoipkaaProg
import Derived.Below
import Derived.Deep.Draws
import Derived.Deep.AppendLies
import Derived.Maps.AppendAt
import Derived.OwnWalk
import Derived.Laws.BytesArg
import Derived.Laws.MakeOwn
import Derived.Laws.OwnMore
import Derived.Deep.OwnRows
import Derived.Tactics
import Derived.Lib.ConvBytes
import Derived.Laws.Slices
import Derived.WalkKit
import Derived.KernelRfl
import Derived.RowKit3
import Derived.Deep.LoopGhost
import Derived.Deep.QuietTactic
import Derived.BigQuiet
import Derived.WideLaws
import Derived.Deep.DeepCutAuto
import Derived.Deep.CutBlock
import Derived.Deep.RegionHeld3
import Derived.Laws.Rows
import Derived.Lib.AppendStr
import Derived.ArgAppend
import Derived.Laws.IdiomCopy
import Derived.OrdersHeld
import Derived.Laws.BitsLemmas
import Derived.RowKit
import Derived.Test.YtomdihpleoipkaaWWords
import Derived.Test.YtomdihpleoipkaaWLast
import Derived.Test.YtomdihpleoipkaaWTab
import Derived.Test.YtomdihpleoipkaaWFour
import Derived.Test.YtomdihpleoipkaaWQPut
import Derived.Test.YtomdihpleoipkaaWApart
import Derived.Test.YtomdihpleoipkaaWArr
import Derived.Test.YtomdihpleoipkaaWZeros
import Derived.Test.YtomdihpleoipkaaWFoot
import Derived.Test.YtomdihpleoipkaaWKept
import Derived.Test.YtomdihpleoipkaaWShare
import Derived.Test.YtomdihpleoipkaaWN
import Derived.Test.YtomdihpleoipkaaWFootNe
import Derived.Test.YtomdihpleoipkaaWAt
import Derived.Test.YtomdihpleoipkaaWEqStruct
import Derived.Test.YtomdihpleoipkaaWRepsOne
import Derived.Test.YtomdihpleoipkaaWInv
import Derived.Test.YtomdihpleoipkaaWInvWords
import Derived.Test.YtomdihpleoipkaaWGuard
import Derived.Test.YtomdihpleoipkaaWNEv
import Derived.Test.YtomdihpleoipkaaWMore
namespace Go.Proofs.Ytomdihpleoipkaa.PC
open Go.RowKit Go.Proofs.YtomdihpleoipkaaW.PrintWords Go.Proofs.YtomdihpleoipkaaW.PrintLast Go.Proofs.YtomdihpleoipkaaW.PrintMore
attribute [local go_sem] max2_int min2_int max_two min_two max_three min_three max_four min_four
set_option linter.unusedVariables false
set_option linter.unusedSimpArgs false

theorem mod_rng (x : Int) : 0 ≤ x % 256 ∧ x % 256 ≤ 255 := by omega

/-! ### strings.IndexByte -/
def strings_IndexByte.f (a0 : ByteArray) (a1 : Int) : Option (Int) := some (Lib.indexByte a0.data.toList a1.toNat.toUInt8)
theorem strings_IndexByte.calls (a0 : ByteArray) (a1 : Int) (r : Int) (w : World) (h : strings_IndexByte.f a0 a1 = some r) :
    Calls Try.prog 24 #[.string a0, .int .u8 a1] w fun e w' => e = .returned (.int .i64 r) ∧ Drawn0 w w' := by
  obtain rfl := Option.some.inj h
  refine (Try.strings_IndexByte a0 a1 w).mono ?_
  rintro e w' ⟨rfl, rfl⟩
  exact ⟨rfl, Drawn0.refl _⟩

/-! ### code_write: function 21 -/
mutual
def code_write.l0 : Nat → ByteArray → ByteArray → Int → List Int → Int → Int → Int → Int → Option (ByteArray)
  | 0, _, _, _, _, _, _, _, _ => none
  | k + 1, x0, x1, x2, x7, x8, x9, x12, x13 => if x13 < x12 then (if 0 ≤ x13 then (if x13 < (x0.size : Int) then (code_write.l1 k x0 x1 x2 x7 (Go.bits .or .i64 (wrap64 (x8 * 256)) (wrap64 (bt x0 x13))) (wrap64 (x9 + 8)) x12 x13) else (none)) else (none)) else (if x9 > 0 then (if 0 ≤ (wrap64 (x2 - x9)) then (if 0 ≤ (shl .i64 x8 (wrap64 (x2 - x9))) then (if (shl .i64 x8 (wrap64 (x2 - x9))) < (x1.size : Int) then (if x7.length < 140737488355328 then (some (strOfNums (x7 ++ [bt x1 (shl .i64 x8 (wrap64 (x2 - x9)))]))) else (none)) else (none)) else (none)) else (none)) else (some (strOfNums x7)))
def code_write.l1 : Nat → ByteArray → ByteArray → Int → List Int → Int → Int → Int → Int → Option (ByteArray)
  | 0, _, _, _, _, _, _, _, _ => none
  | k + 1, x0, x1, x2, x7, x8, x9, x12, x13 => if x9 ≥ x2 then (if 0 ≤ (wrap64 (x9 - x2)) then (if 0 ≤ (shr .i64 x8 (wrap64 (x9 - x2))) then (if (shr .i64 x8 (wrap64 (x9 - x2))) < (x1.size : Int) then (if x7.length < 140737488355328 then (code_write.l1 k x0 x1 x2 (x7 ++ [bt x1 (shr .i64 x8 (wrap64 (x9 - x2)))]) (Go.bits .and .i64 x8 (wrap64 ((shl .i64 1 (wrap64 (x9 - x2))) - 1))) (wrap64 (x9 - x2)) x12 x13) else (none)) else (none)) else (none)) else (none)) else (code_write.l0 k x0 x1 x2 x7 x8 x9 x12 (wrap64 (x13 + 1)))
end
def code_write.f (k : Nat) (a0 : ByteArray) (a1 : ByteArray) (a2 : Int) : Option (ByteArray) := code_write.l0 k a0 a1 a2 ([] : List Int) 0 0 (a0.size : Int) 0
theorem code_write.mono_l : ∀ k, (∀ y0 y1 y2 y3 y4 y5 y6 y7, LeO (code_write.l0 k y0 y1 y2 y3 y4 y5 y6 y7) (code_write.l0 (k + 1) y0 y1 y2 y3 y4 y5 y6 y7)) ∧ (∀ y0 y1 y2 y3 y4 y5 y6 y7, LeO (code_write.l1 k y0 y1 y2 y3 y4 y5 y6 y7) (code_write.l1 (k + 1) y0 y1 y2 y3 y4 y5 y6 y7))
  | 0 => ⟨fun _ _ _ _ _ _ _ _ r h => by simp [code_write.l0] at h, fun _ _ _ _ _ _ _ _ r h => by simp [code_write.l1] at h⟩
  | k + 1 => by
    obtain ⟨ih0, ih1⟩ := code_write.mono_l k
    refine ⟨?_, ?_⟩
    · intro y0 y1 y2 y3 y4 y5 y6 y7
      unfold code_write.l0
      repeat' first
      | (with_reducible exact ih0 _ _ _ _ _ _ _ _)
      | (with_reducible exact ih1 _ _ _ _ _ _ _ _)
      | (with_reducible exact LeO.refl _)
      | (with_reducible exact LeO.none _)
      | (with_reducible refine LeO.ite ?_ ?_)
      | (with_reducible refine LeO.bind ?_ (fun _ => ?_))
      | exact ih0 _ _ _ _ _ _ _ _
      | exact ih1 _ _ _ _ _ _ _ _
      | exact LeO.none _
      | refine LeO.ite ?_ ?_
      | refine LeO.bind ?_ (fun _ => ?_)
    · intro y0 y1 y2 y3 y4 y5 y6 y7
      unfold code_write.l1
      repeat' first
      | (with_reducible exact ih0 _ _ _ _ _ _ _ _)
      | (with_reducible exact ih1 _ _ _ _ _ _ _ _)
      | (with_reducible exact LeO.refl _)
      | (with_reducible exact LeO.none _)
      | (with_reducible refine LeO.ite ?_ ?_)
      | (with_reducible refine LeO.bind ?_ (fun _ => ?_))
      | exact ih0 _ _ _ _ _ _ _ _
      | exact ih1 _ _ _ _ _ _ _ _
      | exact LeO.none _
      | refine LeO.ite ?_ ?_
      | refine LeO.bind ?_ (fun _ => ?_)
theorem code_write.mono : ∀ a0 a1 a2 k, LeO (code_write.f k a0 a1 a2) (code_write.f (k + 1) a0 a1 a2) := by
  intro a0 a1 a2 k
  obtain ⟨ih0, ih1⟩ := code_write.mono_l k
  unfold code_write.f
  repeat' first
      | (with_reducible exact ih0 _ _ _ _ _ _ _ _)
      | (with_reducible exact ih1 _ _ _ _ _ _ _ _)
      | (with_reducible exact LeO.refl _)
      | (with_reducible exact LeO.none _)
      | (with_reducible refine LeO.ite ?_ ?_)
      | (with_reducible refine LeO.bind ?_ (fun _ => ?_))
      | exact ih0 _ _ _ _ _ _ _ _
      | exact ih1 _ _ _ _ _ _ _ _
      | exact LeO.none _
      | refine LeO.ite ?_ ?_
      | refine LeO.bind ?_ (fun _ => ?_)
set_option maxHeartbeats 8000000 in
set_option maxRecDepth 100000 in
theorem code_write.calls (k : Nat) (a0 : ByteArray) (a1 : ByteArray) (a2 : Int) (r : ByteArray) (w : World) (h : code_write.f k a0 a1 a2 = some r) :
    Calls Try.prog 21 #[.string a0, .string a1, .int .i64 a2] w fun e w' => e = .returned (.string r) ∧ Below w.heap.size w w' := by
  have HB := Aside0.mk (Below.refl w.heap.size w)
  have H : (code_write.l0 k a0 a1 a2 ([] : List Int) 0 0 (a0.size : Int) 0) = some r := h
  clear h
  have H' := Aside0.mk H
  clear H
  go_enter Try.func21, Try.ntmps21
  go_wp2
  go_loopg [8, 9, 13] k (fun kq v8 v9 v13 w' => ∃ (x7_1 : List Int) (x8_1 : Int) (x9_1 : Int) (x13_1 : Int), v8 = .int .i64 x8_1 ∧ v9 = .int .i64 x9_1 ∧ v13 = .int .i64 x13_1 ∧ Aside0 (code_write.l0 kq a0 a1 a2 x7_1 x8_1 x9_1 (a0.size : Int) x13_1 = some r) ∧ Aside0 (kq ≤ k) ∧ Aside0 (Bld.Holds w.heap.size w.heap.size x7_1 w') ∧ Aside0 (Below w.heap.size w w'))
  case atStart => exact ⟨(([] : List Int)), (0), (0), (0), (by first | rfl | (simp; done) | (simp [*]; done)), (by first | rfl | (simp; done) | (simp [*]; done)), (by first | rfl | (simp; done) | (simp [*]; done)), H', ⟨Nat.le_refl _⟩, ⟨Bld.Holds.fresh w⟩, ⟨by repeat (first | (with_reducible first | exact HB.out | apply below_alloc | apply pw_below_drewN | apply below_drew1) | exact HB.out)⟩⟩
  case round =>
    clear H'
    try clear c2
    try clear p2
    obtain ⟨x7_1, x8_1, x9_1, x13_1, rfl, rfl, rfl, HA, HK1, HO_7, HB⟩ := hrel
    cases gk with
    | zero => exact absurd HA.out (by simp [code_write.l0])
    | succ k1 =>
      have H := HA.out
      clear HA
      simp only [code_write.l0] at H
      by_cases c4 : x13_1 < (a0.size : Int)
      · rw [if_pos c4] at H
        have c4b0 : decide (x13_1 < (a0.size : Int)) = true := decide_eq_true c4
        clear c4
        by_cases c5 : 0 ≤ x13_1
        · rw [if_pos c5] at H
          have c5b0 : decide (0 ≤ x13_1) = true := decide_eq_true c5
          clear c5
          by_cases c6 : x13_1 < (a0.size : Int)
          · rw [if_pos c6] at H
            have c6b0 : decide (x13_1 < (a0.size : Int)) = true := decide_eq_true c6
            clear c6
            have H' := Aside0.mk H
            clear H
            have p7 : 0 ≤ (x13_1 : Int) := of_decide_eq_true (by first | (with_reducible assumption) | assumption)
            have q7 : x13_1 < (a0.size : Int) := of_decide_eq_true (by first | (with_reducible assumption) | assumption)
            have hx7 := bt_at a0 x13_1
            replace p7 := eq_true p7
            replace q7 := eq_true q7
            go_wp2
            go_loopg [8, 9] k1 (fun kq v8 v9 w' => ∃ (x7_2 : List Int) (x8_2 : Int) (x9_2 : Int), v8 = .int .i64 x8_2 ∧ v9 = .int .i64 x9_2 ∧ Aside0 (code_write.l1 kq a0 a1 a2 x7_2 x8_2 x9_2 (a0.size : Int) x13_1 = some r) ∧ Aside0 (kq ≤ k1) ∧ Aside0 (Bld.Holds w.heap.size w.heap.size x7_2 w') ∧ Aside0 (Below w.heap.size w w'))
            case atStart => exact ⟨(x7_1), (Go.bits .or .i64 (wrap64 (x8_1 * 256)) (wrap64 (bt a0 x13_1))), (wrap64 (x9_1 + 8)), (by first | rfl | (simp; done) | (simp [*]; done)), (by first | rfl | (simp; done) | (simp [*]; done)), H', ⟨Nat.le_refl _⟩, ⟨by (with_reducible repeat (first | apply Bld.Holds.alloc | apply Bld.Holds.drewN | apply Bld.Holds.drew)); exact HO_7.out⟩, ⟨by repeat (first | (with_reducible first | exact HB.out | apply below_alloc | apply pw_below_drewN | apply below_drew1) | exact HB.out)⟩⟩
            case round =>
              clear H'
              try clear c2
              try clear p2
              try clear c4
              try clear c4b0
              try clear c5
              try clear c5b0
              try clear c6
              try clear c6b0
              try clear p6
              try clear p7
              try clear q7
              try clear hx7
              try clear p2
              try clear p7
              try clear q7
              obtain ⟨x7_2, x8_2, x9_2, rfl, rfl, HA, HK2, HO_7, HB⟩ := hrel
              cases gk with
              | zero => exact absurd HA.out (by simp [code_write.l1])
              | succ k2 =>
                have H := HA.out
                clear HA
                simp only [code_write.l1] at H
                by_cases c8 : x9_2 ≥ a2
                · rw [if_pos c8] at H
                  have c8b0 : decide (a2 ≤ x9_2) = true := decide_eq_true c8
                  clear c8
                  obtain ⟨ji9, hji9⟩ : ∃ j_ : Int, (wrap64 (x9_2 - a2)) = j_ := ⟨_, rfl⟩
                  replace H : (if 0 ≤ (ji9) then (if 0 ≤ (shr .i64 x8_2 (ji9)) then (if (shr .i64 x8_2 (ji9)) < (a1.size : Int) then (if x7_2.length < 140737488355328 then (code_write.l1 k2 a0 a1 a2 (x7_2 ++ [bt a1 (shr .i64 x8_2 (ji9))]) (Go.bits .and .i64 x8_2 (wrap64 ((shl .i64 1 (ji9)) - 1))) ji9 (a0.size : Int) x13_1) else (none)) else (none)) else (none)) else (none)) = some r := by first | (rw [hji9] at H; exact H) | (simp only [hji9] at H ⊢; exact H)
                  have hji9w : (IntKind.i64.wrap (x9_2 - a2)) = ji9 := (i64_w _).trans hji9
                  by_cases c10 : 0 ≤ (ji9)
                  · rw [if_pos c10] at H
                    have c10b0 := eq_true c10
                    have c10b1 : decide (0 ≤ (ji9)) = true := decide_eq_true c10
                    clear c10
                    obtain ⟨ji11, hji11⟩ : ∃ j_ : Int, (shr .i64 x8_2 (ji9)) = j_ := ⟨_, rfl⟩
                    replace H : (if 0 ≤ (ji11) then (if (ji11) < (a1.size : Int) then (if x7_2.length < 140737488355328 then (code_write.l1 k2 a0 a1 a2 (x7_2 ++ [bt a1 (ji11)]) (Go.bits .and .i64 x8_2 (wrap64 ((shl .i64 1 (ji9)) - 1))) ji9 (a0.size : Int) x13_1) else (none)) else (none)) else (none)) = some r := by first | (rw [hji11] at H; exact H) | (simp only [hji11] at H ⊢; exact H)
                    have hji11_ : (x8_2 / 2 ^ min (ji9).toNat 64) = ji11 := hji11
                    have hji11z : (ji9) ≤ 64 → (x8_2 / 2 ^ (ji9).toNat) = ji11 := shr_small hji11
                    by_cases c12 : 0 ≤ (ji11)
                    · rw [if_pos c12] at H
                      have c12b0 : decide (0 ≤ (ji11)) = true := decide_eq_true c12
                      clear c12
                      by_cases c13 : (ji11) < (a1.size : Int)
                      · rw [if_pos c13] at H
                        have c13b0 : decide ((ji11) < (a1.size : Int)) = true := decide_eq_true c13
                        clear c13
                        by_cases c15 : x7_2.length < 140737488355328
                        · rw [if_pos c15] at H
                          have LMc15 := Aside0.mk c15
                          clear c15
                          obtain ⟨y104, hy104⟩ : ∃ y_ : List Int, y_ = (x7_2 ++ [bt a1 (ji11)]) := ⟨_, rfl⟩
                          replace H : (code_write.l1 k2 a0 a1 a2 y104 (Go.bits .and .i64 x8_2 (wrap64 ((shl .i64 1 (ji9)) - 1))) ji9 (a0.size : Int) x13_1) = some r := by first | (rw [hy104]; with_reducible exact H) | (have H2_ := (Option.bind_some _ _).symm.trans H; rw [hy104]; with_reducible exact H2_) | (have H2_ := (Option.bind_some _ _).symm.trans H; with_reducible exact H2_) | with_reducible exact H | (rw [hy104]; exact H) | exact H
                          have Ny104 := Aside0.mk hy104
                          clear hy104
                          have c16b0 := eq_true (of_decide_eq_true (by first | (with_reducible assumption) | assumption) : 0 ≤ (ji9))
                          obtain ⟨ji17, hji17⟩ : ∃ j_ : Int, (shl .i64 1 (ji9)) = j_ := ⟨_, rfl⟩
                          replace H : (code_write.l1 k2 a0 a1 a2 y104 (Go.bits .and .i64 x8_2 (wrap64 ((ji17) - 1))) ji9 (a0.size : Int) x13_1) = some r := by first | (rw [hji17] at H; exact H) | (simp only [hji17] at H ⊢; exact H)
                          have hji17_ : (IntKind.i64.wrap (1 * 2 ^ min (ji9).toNat 64)) = ji17 := hji17
                          have hji17z : (ji9) ≤ 64 → (IntKind.i64.wrap (1 * 2 ^ (ji9).toNat)) = ji17 := shl_small hji17
                          have hji17u : (IntKind.i64.wrap (2 ^ min (ji9).toNat 64)) = ji17 := by have h_ := hji17_; rw [Int.one_mul] at h_; exact h_
                          have hji17v : (ji9) ≤ 64 → (IntKind.i64.wrap (2 ^ (ji9).toNat)) = ji17 := fun hle_ => by have h_ := hji17z hle_; rw [Int.one_mul] at h_; exact h_
                          have hji17y : (wrap64 (1 * 2 ^ min (ji9).toNat 64)) = ji17 := (i64_w _).symm.trans hji17_
                          have hji17x : (ji9) ≤ 64 → (wrap64 (1 * 2 ^ (ji9).toNat)) = ji17 := fun h_ => (i64_w _).symm.trans (hji17z h_)
                          have H' := Aside0.mk H
                          clear H
                          have p14 : 0 ≤ ((ji11) : Int) := of_decide_eq_true (by first | (with_reducible assumption) | assumption)
                          have q14 : (ji11) < (a1.size : Int) := of_decide_eq_true (by first | (with_reducible assumption) | assumption)
                          have hx14 := bt_at a1 (ji11)
                          replace p14 := eq_true p14
                          replace q14 := eq_true q14
                          go_wp2_with (go_at_call 25; (with_reducible refine (Bld.writeByte w.heap.size w.heap.size x7_2 (bt a1 (ji11)) _ ?hO (bt_range _ _) LMc15.out ?hS).mono ?_); (case hO => exact (by (with_reducible repeat (first | apply Bld.Holds.alloc | apply Bld.Holds.drewN | apply Bld.Holds.drew)); exact HO_7.out)); (case hS => exact (below_size (by repeat (first | (with_reducible first | exact HB.out | apply below_alloc | apply pw_below_drewN | apply below_drew1) | exact HB.out)))); rintro e w18 ⟨rfl, ho, hb⟩; rw [← Ny104.out] at ho; have n0_ := Aside0.mk (Below.trans (by repeat (first | (with_reducible first | exact HB.out | apply below_alloc | apply pw_below_drewN | apply below_drew1) | exact HB.out)) hb); have n1_ := Aside0.mk ho; clear HB; clear HO_7; have HB := n0_; have HO106 := n1_; clear n0_ n1_; clear ho hb)
                          go_roundg k2
                          case measure => have := HK1.out; have := HK2.out; omega
                          case rel => exact ⟨(y104), (Go.bits .and .i64 x8_2 (wrap64 ((ji17) - 1))), (ji9), (by first | rfl | (simp; done) | (simp only [← hji17] <;> (first | rfl | simp)) | (simp [*]; done)), (by first | rfl | (simp; done) | (simp only [← hji9] <;> (first | rfl | simp)) | (simp [*]; done)), H', ⟨by have := HK1.out; have := HK2.out; omega⟩, ⟨by (with_reducible repeat (first | apply Bld.Holds.alloc | apply Bld.Holds.drewN | apply Bld.Holds.drew)); exact HO106.out⟩, ⟨by repeat (first | (with_reducible first | exact HB.out | apply below_alloc | apply pw_below_drewN | apply below_drew1) | exact HB.out)⟩⟩
                        · rw [if_neg c15] at H
                          exact absurd H (by simp)
                      · rw [if_neg c13] at H
                        exact absurd H (by simp)
                    · rw [if_neg c12] at H
                      exact absurd H (by simp)
                  · rw [if_neg c10] at H
                    exact absurd H (by simp)
                · rw [if_neg c8] at H
                  have c8b0 : decide (a2 ≤ x9_2) = false := decide_eq_false c8
                  clear c8
                  have H' := Aside0.mk H
                  clear H
                  go_wp2
                  go_roundg k2
                  case measure => have := HK1.out; have := HK2.out; omega
                  case rel => exact ⟨(x7_2), (x8_2), (x9_2), (wrap64 (x13_1 + 1)), (by first | rfl | (simp; done) | (simp [*]; done)), (by first | rfl | (simp; done) | (simp [*]; done)), (by first | rfl | (simp; done) | (simp [*]; done)), H', ⟨by have := HK1.out; have := HK2.out; omega⟩, ⟨by (with_reducible repeat (first | apply Bld.Holds.alloc | apply Bld.Holds.drewN | apply Bld.Holds.drew)); exact HO_7.out⟩, ⟨by repeat (first | (with_reducible first | exact HB.out | apply below_alloc | apply pw_below_drewN | apply below_drew1) | exact HB.out)⟩⟩
          · rw [if_neg c6] at H
            exact absurd H (by simp)
        · rw [if_neg c5] at H
          exact absurd H (by simp)
      · rw [if_neg c4] at H
        have c4b0 : decide (x13_1 < (a0.size : Int)) = false := decide_eq_false c4
        clear c4
        by_cases c19 : x9_1 > 0
        · rw [if_pos c19] at H
          have c19b0 : decide (0 < x9_1) = true := decide_eq_true c19
          clear c19
          obtain ⟨ji20, hji20⟩ : ∃ j_ : Int, (wrap64 (a2 - x9_1)) = j_ := ⟨_, rfl⟩
          replace H : (if 0 ≤ (ji20) then (if 0 ≤ (shl .i64 x8_1 (ji20)) then (if (shl .i64 x8_1 (ji20)) < (a1.size : Int) then (if x7_1.length < 140737488355328 then (some (strOfNums (x7_1 ++ [bt a1 (shl .i64 x8_1 (ji20))]))) else (none)) else (none)) else (none)) else (none)) = some r := by first | (rw [hji20] at H; exact H) | (simp only [hji20] at H ⊢; exact H)
          have hji20w : (IntKind.i64.wrap (a2 - x9_1)) = ji20 := (i64_w _).trans hji20
          by_cases c21 : 0 ≤ (ji20)
          · rw [if_pos c21] at H
            have c21b0 := eq_true c21
            have c21b1 : decide (0 ≤ (ji20)) = true := decide_eq_true c21
            clear c21
            obtain ⟨ji22, hji22⟩ : ∃ j_ : Int, (shl .i64 x8_1 (ji20)) = j_ := ⟨_, rfl⟩
            replace H : (if 0 ≤ (ji22) then (if (ji22) < (a1.size : Int) then (if x7_1.length < 140737488355328 then (some (strOfNums (x7_1 ++ [bt a1 (ji22)]))) else (none)) else (none)) else (none)) = some r := by first | (rw [hji22] at H; exact H) | (simp only [hji22] at H ⊢; exact H)
            have hji22_ : (IntKind.i64.wrap (x8_1 * 2 ^ min (ji20).toNat 64)) = ji22 := hji22
            have hji22z : (ji20) ≤ 64 → (IntKind.i64.wrap (x8_1 * 2 ^ (ji20).toNat)) = ji22 := shl_small hji22
            have hji22y : (wrap64 (x8_1 * 2 ^ min (ji20).toNat 64)) = ji22 := (i64_w _).symm.trans hji22_
            have hji22x : (ji20) ≤ 64 → (wrap64 (x8_1 * 2 ^ (ji20).toNat)) = ji22 := fun h_ => (i64_w _).symm.trans (hji22z h_)
            by_cases c23 : 0 ≤ (ji22)
            · rw [if_pos c23] at H
              have c23b0 : decide (0 ≤ (ji22)) = true := decide_eq_true c23
              clear c23
              by_cases c24 : (ji22) < (a1.size : Int)
              · rw [if_pos c24] at H
                have c24b0 : decide ((ji22) < (a1.size : Int)) = true := decide_eq_true c24
                clear c24
                by_cases c26 : x7_1.length < 140737488355328
                · rw [if_pos c26] at H
                  have LMc26 := Aside0.mk c26
                  clear c26
                  obtain ⟨y101, hy101⟩ : ∃ y_ : List Int, y_ = (x7_1 ++ [bt a1 (ji22)]) := ⟨_, rfl⟩
                  replace H : (some (strOfNums y101)) = some r := by first | (rw [hy101]; with_reducible exact H) | (have H2_ := (Option.bind_some _ _).symm.trans H; rw [hy101]; with_reducible exact H2_) | (have H2_ := (Option.bind_some _ _).symm.trans H; with_reducible exact H2_) | with_reducible exact H | (rw [hy101]; exact H) | exact H
                  have Ny101 := Aside0.mk hy101
                  clear hy101
                  obtain rfl := Option.some.inj H
                  have p25 : 0 ≤ ((ji22) : Int) := of_decide_eq_true (by first | (with_reducible assumption) | assumption)
                  have q25 : (ji22) < (a1.size : Int) := of_decide_eq_true (by first | (with_reducible assumption) | assumption)
                  have hx25 := bt_at a1 (ji22)
                  replace p25 := eq_true p25
                  replace q25 := eq_true q25
                  go_wp2_with (first | (go_at_call 25; (with_reducible refine (Bld.writeByte w.heap.size w.heap.size x7_1 (bt a1 (ji22)) _ ?hO (bt_range _ _) LMc26.out ?hS).mono ?_); (case hO => exact (by (with_reducible repeat (first | apply Bld.Holds.alloc | apply Bld.Holds.drewN | apply Bld.Holds.drew)); exact HO_7.out)); (case hS => exact (below_size (by repeat (first | (with_reducible first | exact HB.out | apply below_alloc | apply pw_below_drewN | apply below_drew1) | exact HB.out)))); rintro e w27 ⟨rfl, ho, hb⟩; rw [← Ny101.out] at ho; have n0_ := Aside0.mk (Below.trans (by repeat (first | (with_reducible first | exact HB.out | apply below_alloc | apply pw_below_drewN | apply below_drew1) | exact HB.out)) hb); have n1_ := Aside0.mk ho; clear HB; clear HO_7; have HB := n0_; have HO103 := n1_; clear n0_ n1_; clear ho hb) | (go_at_call 26; (with_reducible refine (Bld.string_any w.heap.size w.heap.size y101 _ ?hO ?hS).mono ?_); (case hO => exact (by (with_reducible repeat (first | apply Bld.Holds.alloc | apply Bld.Holds.drewN | apply Bld.Holds.drew)); exact HO103.out)); (case hS => exact (below_size (by repeat (first | (with_reducible first | exact HB.out | apply below_alloc | apply pw_below_drewN | apply below_drew1) | exact HB.out)))); rintro e w28 ⟨rfl, ho, hb⟩; have n0_ := Aside0.mk (Below.trans (by repeat (first | (with_reducible first | exact HB.out | apply below_alloc | apply pw_below_drewN | apply below_drew1) | exact HB.out)) hb); have n1_ := Aside0.mk ho; clear HB; clear HO103; have HB := n0_; have HO103 := n1_; clear n0_ n1_; clear ho hb))
                  go_ret
                  exact ⟨by first | rfl | (simp [errW_none, errW_some] <;> rfl) | (simp only [← hji20, ← hji22]; first | rfl | (simp [errW_none, errW_some] <;> rfl)) | (simp [*, errW_none, errW_some] <;> rfl), by repeat (first | (with_reducible first | exact HB.out | apply below_alloc | apply pw_below_drewN | apply below_drew1) | exact HB.out)⟩
                · rw [if_neg c26] at H
                  exact absurd H (by simp)
              · rw [if_neg c24] at H
                exact absurd H (by simp)
            · rw [if_neg c23] at H
              exact absurd H (by simp)
          · rw [if_neg c21] at H
            exact absurd H (by simp)
        · rw [if_neg c19] at H
          have c19b0 : decide (0 < x9_1) = false := decide_eq_false c19
          clear c19
          obtain rfl := Option.some.inj H
          go_wp2_with (go_at_call 26; (with_reducible refine (Bld.string_any w.heap.size w.heap.size x7_1 _ ?hO ?hS).mono ?_); (case hO => exact (by (with_reducible repeat (first | apply Bld.Holds.alloc | apply Bld.Holds.drewN | apply Bld.Holds.drew)); exact HO_7.out)); (case hS => exact (below_size (by repeat (first | (with_reducible first | exact HB.out | apply below_alloc | apply pw_below_drewN | apply below_drew1) | exact HB.out)))); rintro e w29 ⟨rfl, ho, hb⟩; have n0_ := Aside0.mk (Below.trans (by repeat (first | (with_reducible first | exact HB.out | apply below_alloc | apply pw_below_drewN | apply below_drew1) | exact HB.out)) hb); have n1_ := Aside0.mk ho; clear HB; clear HO_7; have HB := n0_; have HO_7 := n1_; clear n0_ n1_; clear ho hb)
          go_ret
          exact ⟨by first | rfl | (simp [errW_none, errW_some] <;> rfl) | (simp [*, errW_none, errW_some] <;> rfl), by repeat (first | (with_reducible first | exact HB.out | apply below_alloc | apply pw_below_drewN | apply below_drew1) | exact HB.out)⟩


/-! ### code_read: function 19 -/
def code_read.l0 : Nat → ByteArray → ByteArray → Int → List Int → Int → Int → Int → Int → Option (ByteArray × Int)
  | 0, _, _, _, _, _, _, _, _ => none
  | k + 1, x0, x1, x2, x8, x9, x10, x14, x15 => if x15 < x14 then (if 0 ≤ x15 then (if x15 < (x0.size : Int) then ((strings_IndexByte.f x1 (bt x0 x15)).bind fun t108 => (if t108 < 0 then (some ((⟨#[]⟩ : ByteArray), 3)) else (if 0 ≤ x2 then (if (wrap64 (x10 + x2)) ≥ 8 then (if 0 ≤ (wrap64 ((wrap64 (x10 + x2)) - 8)) then (if x8.length < 140737488355328 then (code_read.l0 k x0 x1 x2 (x8 ++ [(shr .i64 (Go.bits .or .i64 (shl .i64 x9 x2) t108) (wrap64 ((wrap64 (x10 + x2)) - 8))) % 256]) (Go.bits .and .i64 (Go.bits .or .i64 (shl .i64 x9 x2) t108) (wrap64 ((shl .i64 1 (wrap64 ((wrap64 (x10 + x2)) - 8))) - 1))) (wrap64 ((wrap64 (x10 + x2)) - 8)) x14 (wrap64 (x15 + 1))) else (none)) else (none)) else (code_read.l0 k x0 x1 x2 x8 (Go.bits .or .i64 (shl .i64 x9 x2) t108) (wrap64 (x10 + x2)) x14 (wrap64 (x15 + 1)))) else (none)))) else (none)) else (none)) else ((code_write.f k (strOfNums x8) x1 x2).bind fun t107 => (if t107.toList = x0.toList then (some (strOfNums x8, 0)) else (some ((⟨#[]⟩ : ByteArray), 3))))
def code_read.f (k : Nat) (a0 : ByteArray) (a1 : ByteArray) (a2 : Int) : Option (ByteArray × Int) := code_read.l0 k a0 a1 a2 ([] : List Int) 0 0 (a0.size : Int) 0
theorem code_read.mono_l : ∀ k, (∀ y0 y1 y2 y3 y4 y5 y6 y7, LeO (code_read.l0 k y0 y1 y2 y3 y4 y5 y6 y7) (code_read.l0 (k + 1) y0 y1 y2 y3 y4 y5 y6 y7))
  | 0 => fun _ _ _ _ _ _ _ _ r h => by simp [code_read.l0] at h
  | k + 1 => by
    have ih0 := code_read.mono_l k
    · intro y0 y1 y2 y3 y4 y5 y6 y7
      unfold code_read.l0
      repeat' first
      | (with_reducible exact ih0 _ _ _ _ _ _ _ _)
      | (with_reducible exact code_write.mono _ _ _ _)
      | (with_reducible exact LeO.refl _)
      | (with_reducible exact LeO.none _)
      | (with_reducible refine LeO.ite ?_ ?_)
      | (with_reducible refine LeO.bind ?_ (fun _ => ?_))
      | exact ih0 _ _ _ _ _ _ _ _
      | exact code_write.mono _ _ _ _
      | exact LeO.none _
      | refine LeO.ite ?_ ?_
      | refine LeO.bind ?_ (fun _ => ?_)
theorem code_read.mono : ∀ a0 a1 a2 k, LeO (code_read.f k a0 a1 a2) (code_read.f (k + 1) a0 a1 a2) := by
  intro a0 a1 a2 k
  have ih0 := code_read.mono_l k
  unfold code_read.f
  repeat' first
      | (with_reducible exact ih0 _ _ _ _ _ _ _ _)
      | (with_reducible exact code_write.mono _ _ _ _)
      | (with_reducible exact LeO.refl _)
      | (with_reducible exact LeO.none _)
      | (with_reducible refine LeO.ite ?_ ?_)
      | (with_reducible refine LeO.bind ?_ (fun _ => ?_))
      | exact ih0 _ _ _ _ _ _ _ _
      | exact code_write.mono _ _ _ _
      | exact LeO.none _
      | refine LeO.ite ?_ ?_
      | refine LeO.bind ?_ (fun _ => ?_)
set_option maxHeartbeats 8000000 in
set_option maxRecDepth 100000 in
theorem code_read.calls (k : Nat) (a0 : ByteArray) (a1 : ByteArray) (a2 : Int) (r1 : ByteArray) (r2 : Int) (w : World) (h : code_read.f k a0 a1 a2 = some (r1, r2)) :
    Calls Try.prog 19 #[.string a0, .string a1, .int .i64 a2] w fun e w' => e = .returned (.tuple #[.string r1, .int .i64 r2]) ∧ Below w.heap.size w w' := by
  have HB := Aside0.mk (Below.refl w.heap.size w)
  have H : (code_read.l0 k a0 a1 a2 ([] : List Int) 0 0 (a0.size : Int) 0) = some (r1, r2) := h
  clear h
  have H' := Aside0.mk H
  clear H
  go_enter Try.func19, Try.ntmps19
  go_wp2
  go_loopg [9, 10, 15] k (fun kq v9 v10 v15 w' => ∃ (x8_1 : List Int) (x9_1 : Int) (x10_1 : Int) (x15_1 : Int), v9 = .int .i64 x9_1 ∧ v10 = .int .i64 x10_1 ∧ v15 = .int .i64 x15_1 ∧ Aside0 (code_read.l0 kq a0 a1 a2 x8_1 x9_1 x10_1 (a0.size : Int) x15_1 = some (r1, r2)) ∧ Aside0 (kq ≤ k) ∧ Aside0 (Bld.Holds w.heap.size w.heap.size x8_1 w') ∧ Aside0 (Below w.heap.size w w'))
  case atStart => exact ⟨(([] : List Int)), (0), (0), (0), (by first | rfl | (simp; done) | (simp [*]; done)), (by first | rfl | (simp; done) | (simp [*]; done)), (by first | rfl | (simp; done) | (simp [*]; done)), H', ⟨Nat.le_refl _⟩, ⟨Bld.Holds.fresh w⟩, ⟨by repeat (first | (with_reducible first | exact HB.out | apply below_alloc | apply pw_below_drewN | apply below_drew1) | exact HB.out)⟩⟩
  case round =>
    clear H'
    try clear c1
    try clear p2
    obtain ⟨x8_1, x9_1, x10_1, x15_1, rfl, rfl, rfl, HA, HK1, HO_8, HB⟩ := hrel
    cases gk with
    | zero => exact absurd HA.out (by simp [code_read.l0])
    | succ k1 =>
      have H := HA.out
      clear HA
      simp only [code_read.l0] at H
      by_cases c4 : x15_1 < (a0.size : Int)
      · rw [if_pos c4] at H
        have c4b0 : decide (x15_1 < (a0.size : Int)) = true := decide_eq_true c4
        clear c4
        by_cases c5 : 0 ≤ x15_1
        · rw [if_pos c5] at H
          have c5b0 : decide (0 ≤ x15_1) = true := decide_eq_true c5
          clear c5
          by_cases c6 : x15_1 < (a0.size : Int)
          · rw [if_pos c6] at H
            have c6b0 : decide (x15_1 < (a0.size : Int)) = true := decide_eq_true c6
            clear c6
            replace H := Option.bind_eq_some_iff.mp H
            obtain ⟨t108, A80, H⟩ := H
            replace H : (if t108 < 0 then (some ((⟨#[]⟩ : ByteArray), 3)) else (if 0 ≤ a2 then (if (wrap64 (x10_1 + a2)) ≥ 8 then (if 0 ≤ (wrap64 ((wrap64 (x10_1 + a2)) - 8)) then (if x8_1.length < 140737488355328 then (code_read.l0 k1 a0 a1 a2 (x8_1 ++ [(shr .i64 (Go.bits .or .i64 (shl .i64 x9_1 a2) t108) (wrap64 ((wrap64 (x10_1 + a2)) - 8))) % 256]) (Go.bits .and .i64 (Go.bits .or .i64 (shl .i64 x9_1 a2) t108) (wrap64 ((shl .i64 1 (wrap64 ((wrap64 (x10_1 + a2)) - 8))) - 1))) (wrap64 ((wrap64 (x10_1 + a2)) - 8)) (a0.size : Int) (wrap64 (x15_1 + 1))) else (none)) else (none)) else (code_read.l0 k1 a0 a1 a2 x8_1 (Go.bits .or .i64 (shl .i64 x9_1 a2) t108) (wrap64 (x10_1 + a2)) (a0.size : Int) (wrap64 (x15_1 + 1)))) else (none))) = some (r1, r2) := H
            have A8 := Aside0.mk A80
            clear A80
            by_cases c9 : t108 < 0
            · rw [if_pos c9] at H
              have c9b0 : decide (t108 < 0) = true := decide_eq_true c9
              clear c9
              simp only [Option.some.injEq, Prod.mk.injEq] at H
              obtain ⟨rfl, rfl⟩ := H
              have p7 : 0 ≤ (x15_1 : Int) := of_decide_eq_true (by first | (with_reducible assumption) | assumption)
              have q7 : x15_1 < (a0.size : Int) := of_decide_eq_true (by first | (with_reducible assumption) | assumption)
              have hx7 := bt_at a0 x15_1
              replace p7 := eq_true p7
              replace q7 := eq_true q7
              go_wp2_with (first | ((with_reducible refine gate_callee (f := 24) rfl ?_); refine goesL_ (some 22) rfl rfl Try.func24 (by kernel_rfl) rfl #[.string a1, .int .u8 (bt a0 x15_1)] rfl (by (try simp only [List.map_toArray, List.map_cons, List.map_nil]); first | done | rfl | (simp only [List.length_drop, List.length_take]; rfl)) ?_; (with_reducible refine (strings_IndexByte.calls a1 (bt a0 x15_1) t108 _ A8.out).mono ?_); rintro e w' ⟨rfl, ⟨nd, rfl⟩⟩; refine ⟨_, rfl, ?_⟩))
              go_ret2
              exact ⟨by first | rfl | (simp [errW_none, errW_some] <;> rfl) | (simp [*, errW_none, errW_some] <;> rfl), by repeat (first | (with_reducible first | exact HB.out | apply below_alloc | apply pw_below_drewN | apply below_drew1) | exact HB.out)⟩
            · rw [if_neg c9] at H
              have c9b0 : decide (t108 < 0) = false := decide_eq_false c9
              clear c9
              by_cases c10 : 0 ≤ a2
              · rw [if_pos c10] at H
                have c10b0 := eq_true c10
                have c10b1 : decide (0 ≤ a2) = true := decide_eq_true c10
                clear c10
                obtain ⟨ji11, hji11⟩ : ∃ j_ : Int, (shl .i64 x9_1 a2) = j_ := ⟨_, rfl⟩
                replace H : (if (wrap64 (x10_1 + a2)) ≥ 8 then (if 0 ≤ (wrap64 ((wrap64 (x10_1 + a2)) - 8)) then (if x8_1.length < 140737488355328 then (code_read.l0 k1 a0 a1 a2 (x8_1 ++ [(shr .i64 (Go.bits .or .i64 (ji11) t108) (wrap64 ((wrap64 (x10_1 + a2)) - 8))) % 256]) (Go.bits .and .i64 (Go.bits .or .i64 (ji11) t108) (wrap64 ((shl .i64 1 (wrap64 ((wrap64 (x10_1 + a2)) - 8))) - 1))) (wrap64 ((wrap64 (x10_1 + a2)) - 8)) (a0.size : Int) (wrap64 (x15_1 + 1))) else (none)) else (none)) else (code_read.l0 k1 a0 a1 a2 x8_1 (Go.bits .or .i64 (ji11) t108) (wrap64 (x10_1 + a2)) (a0.size : Int) (wrap64 (x15_1 + 1)))) = some (r1, r2) := by first | (rw [hji11] at H; exact H) | (simp only [hji11] at H ⊢; exact H)
                (try rw [hji11] at A8)
                have hji11_ : (IntKind.i64.wrap (x9_1 * 2 ^ min a2.toNat 64)) = ji11 := hji11
                have hji11z : a2 ≤ 64 → (IntKind.i64.wrap (x9_1 * 2 ^ a2.toNat)) = ji11 := shl_small hji11
                have hji11y : (wrap64 (x9_1 * 2 ^ min a2.toNat 64)) = ji11 := (i64_w _).symm.trans hji11_
                have hji11x : a2 ≤ 64 → (wrap64 (x9_1 * 2 ^ a2.toNat)) = ji11 := fun h_ => (i64_w _).symm.trans (hji11z h_)
                by_cases c12 : (wrap64 (x10_1 + a2)) ≥ 8
                · rw [if_pos c12] at H
                  have c12b0 : decide (8 ≤ (wrap64 (x10_1 + a2))) = true := decide_eq_true c12
                  clear c12
                  obtain ⟨ji13, hji13⟩ : ∃ j_ : Int, (wrap64 ((wrap64 (x10_1 + a2)) - 8)) = j_ := ⟨_, rfl⟩
                  replace H : (if 0 ≤ (ji13) then (if x8_1.length < 140737488355328 then (code_read.l0 k1 a0 a1 a2 (x8_1 ++ [(shr .i64 (Go.bits .or .i64 (ji11) t108) (ji13)) % 256]) (Go.bits .and .i64 (Go.bits .or .i64 (ji11) t108) (wrap64 ((shl .i64 1 (ji13)) - 1))) ji13 (a0.size : Int) (wrap64 (x15_1 + 1))) else (none)) else (none)) = some (r1, r2) := by first | (rw [hji13] at H; exact H) | (simp only [hji13] at H ⊢; exact H)
                  (try rw [hji13] at A8)
                  have hji13w : (IntKind.i64.wrap ((wrap64 (x10_1 + a2)) - 8)) = ji13 := (i64_w _).trans hji13
                  by_cases c14 : 0 ≤ (ji13)
                  · rw [if_pos c14] at H
                    have c14b0 := eq_true c14
                    have c14b1 : decide (0 ≤ (ji13)) = true := decide_eq_true c14
                    clear c14
                    obtain ⟨ji15, hji15⟩ : ∃ j_ : Int, (shr .i64 (Go.bits .or .i64 (ji11) t108) (ji13)) = j_ := ⟨_, rfl⟩
                    replace H : (if x8_1.length < 140737488355328 then (code_read.l0 k1 a0 a1 a2 (x8_1 ++ [(ji15) % 256]) (Go.bits .and .i64 (Go.bits .or .i64 (ji11) t108) (wrap64 ((shl .i64 1 (ji13)) - 1))) ji13 (a0.size : Int) (wrap64 (x15_1 + 1))) else (none)) = some (r1, r2) := by first | (rw [hji15] at H; exact H) | (simp only [hji15] at H ⊢; exact H)
                    (try rw [hji15] at A8)
                    have hji15_ : ((Go.bits .or .i64 (ji11) t108) / 2 ^ min (ji13).toNat 64) = ji15 := hji15
                    have hji15z : (ji13) ≤ 64 → ((Go.bits .or .i64 (ji11) t108) / 2 ^ (ji13).toNat) = ji15 := shr_small hji15
                    by_cases c16 : x8_1.length < 140737488355328
                    · rw [if_pos c16] at H
                      have LMc16 := Aside0.mk c16
                      clear c16
                      obtain ⟨y109, hy109⟩ : ∃ y_ : List Int, y_ = (x8_1 ++ [(ji15) % 256]) := ⟨_, rfl⟩
                      replace H : (code_read.l0 k1 a0 a1 a2 y109 (Go.bits .and .i64 (Go.bits .or .i64 (ji11) t108) (wrap64 ((shl .i64 1 (ji13)) - 1))) ji13 (a0.size : Int) (wrap64 (x15_1 + 1))) = some (r1, r2) := by first | (rw [hy109]; with_reducible exact H) | (have H2_ := (Option.bind_some _ _).symm.trans H; rw [hy109]; with_reducible exact H2_) | (have H2_ := (Option.bind_some _ _).symm.trans H; with_reducible exact H2_) | with_reducible exact H | (rw [hy109]; exact H) | exact H
                      have Ny109 := Aside0.mk hy109
                      clear hy109
                      have c17b0 := eq_true (of_decide_eq_true (by first | (with_reducible assumption) | assumption) : 0 ≤ (ji13))
                      obtain ⟨ji18, hji18⟩ : ∃ j_ : Int, (shl .i64 1 (ji13)) = j_ := ⟨_, rfl⟩
                      replace H : (code_read.l0 k1 a0 a1 a2 y109 (Go.bits .and .i64 (Go.bits .or .i64 (ji11) t108) (wrap64 ((ji18) - 1))) ji13 (a0.size : Int) (wrap64 (x15_1 + 1))) = some (r1, r2) := by first | (rw [hji18] at H; exact H) | (simp only [hji18] at H ⊢; exact H)
                      (try rw [hji18] at A8)
                      have hji18_ : (IntKind.i64.wrap (1 * 2 ^ min (ji13).toNat 64)) = ji18 := hji18
                      have hji18z : (ji13) ≤ 64 → (IntKind.i64.wrap (1 * 2 ^ (ji13).toNat)) = ji18 := shl_small hji18
                      have hji18u : (IntKind.i64.wrap (2 ^ min (ji13).toNat 64)) = ji18 := by have h_ := hji18_; rw [Int.one_mul] at h_; exact h_
                      have hji18v : (ji13) ≤ 64 → (IntKind.i64.wrap (2 ^ (ji13).toNat)) = ji18 := fun hle_ => by have h_ := hji18z hle_; rw [Int.one_mul] at h_; exact h_
                      have hji18y : (wrap64 (1 * 2 ^ min (ji13).toNat 64)) = ji18 := (i64_w _).symm.trans hji18_
                      have hji18x : (ji13) ≤ 64 → (wrap64 (1 * 2 ^ (ji13).toNat)) = ji18 := fun h_ => (i64_w _).symm.trans (hji18z h_)
                      have H' := Aside0.mk H
                      clear H
                      have p7 : 0 ≤ (x15_1 : Int) := of_decide_eq_true (by first | (with_reducible assumption) | assumption)
                      have q7 : x15_1 < (a0.size : Int) := of_decide_eq_true (by first | (with_reducible assumption) | assumption)
                      have hx7 := bt_at a0 x15_1
                      replace p7 := eq_true p7
                      replace q7 := eq_true q7
                      go_wp2_with (first | ((with_reducible refine gate_callee (f := 24) rfl ?_); refine goesL_ (some 22) rfl rfl Try.func24 (by kernel_rfl) rfl #[.string a1, .int .u8 (bt a0 x15_1)] rfl (by (try simp only [List.map_toArray, List.map_cons, List.map_nil]); first | done | rfl | (simp only [List.length_drop, List.length_take]; rfl)) ?_; (with_reducible refine (strings_IndexByte.calls a1 (bt a0 x15_1) t108 _ A8.out).mono ?_); rintro e w' ⟨rfl, ⟨nd, rfl⟩⟩; refine ⟨_, rfl, ?_⟩) | (go_at_call 25; (with_reducible refine (Bld.writeByte w.heap.size w.heap.size x8_1 ((ji15) % 256) _ ?hO (mod_rng _) LMc16.out ?hS).mono ?_); (case hO => exact (by (with_reducible repeat (first | apply Bld.Holds.alloc | apply Bld.Holds.drewN | apply Bld.Holds.drew)); exact HO_8.out)); (case hS => exact (below_size (by repeat (first | (with_reducible first | exact HB.out | apply below_alloc | apply pw_below_drewN | apply below_drew1) | exact HB.out)))); rintro e w19 ⟨rfl, ho, hb⟩; rw [← Ny109.out] at ho; have n0_ := Aside0.mk (Below.trans (by repeat (first | (with_reducible first | exact HB.out | apply below_alloc | apply pw_below_drewN | apply below_drew1) | exact HB.out)) hb); have n1_ := Aside0.mk ho; clear HB; clear HO_8; have HB := n0_; have HO111 := n1_; clear n0_ n1_; clear ho hb))
                      go_roundg k1
                      case measure => have := HK1.out; omega
                      case rel => exact ⟨(y109), (Go.bits .and .i64 (Go.bits .or .i64 (ji11) t108) (wrap64 ((ji18) - 1))), (ji13), (wrap64 (x15_1 + 1)), (by first | rfl | (simp; done) | (simp only [← hji11, ← hji18] <;> (first | rfl | simp)) | (simp [*]; done)), (by first | rfl | (simp; done) | (simp only [← hji13] <;> (first | rfl | simp)) | (simp [*]; done)), (by first | rfl | (simp; done) | (simp [*]; done)), H', ⟨by have := HK1.out; omega⟩, ⟨by (with_reducible repeat (first | apply Bld.Holds.alloc | apply Bld.Holds.drewN | apply Bld.Holds.drew)); exact HO111.out⟩, ⟨by repeat (first | (with_reducible first | exact HB.out | apply below_alloc | apply pw_below_drewN | apply below_drew1) | exact HB.out)⟩⟩
                    · rw [if_neg c16] at H
                      exact absurd H (by simp)
                  · rw [if_neg c14] at H
                    exact absurd H (by simp)
                · rw [if_neg c12] at H
                  have c12b0 : decide (8 ≤ (wrap64 (x10_1 + a2))) = false := decide_eq_false c12
                  clear c12
                  have H' := Aside0.mk H
                  clear H
                  have p7 : 0 ≤ (x15_1 : Int) := of_decide_eq_true (by first | (with_reducible assumption) | assumption)
                  have q7 : x15_1 < (a0.size : Int) := of_decide_eq_true (by first | (with_reducible assumption) | assumption)
                  have hx7 := bt_at a0 x15_1
                  replace p7 := eq_true p7
                  replace q7 := eq_true q7
                  go_wp2_with (first | ((with_reducible refine gate_callee (f := 24) rfl ?_); refine goesL_ (some 22) rfl rfl Try.func24 (by kernel_rfl) rfl #[.string a1, .int .u8 (bt a0 x15_1)] rfl (by (try simp only [List.map_toArray, List.map_cons, List.map_nil]); first | done | rfl | (simp only [List.length_drop, List.length_take]; rfl)) ?_; (with_reducible refine (strings_IndexByte.calls a1 (bt a0 x15_1) t108 _ A8.out).mono ?_); rintro e w' ⟨rfl, ⟨nd, rfl⟩⟩; refine ⟨_, rfl, ?_⟩))
                  go_roundg k1
                  case measure => have := HK1.out; omega
                  case rel => exact ⟨(x8_1), (Go.bits .or .i64 (ji11) t108), (wrap64 (x10_1 + a2)), (wrap64 (x15_1 + 1)), (by first | rfl | (simp; done) | (simp only [← hji11] <;> (first | rfl | simp)) | (simp [*]; done)), (by first | rfl | (simp; done) | (simp [*]; done)), (by first | rfl | (simp; done) | (simp [*]; done)), H', ⟨by have := HK1.out; omega⟩, ⟨by (with_reducible repeat (first | apply Bld.Holds.alloc | apply Bld.Holds.drewN | apply Bld.Holds.drew)); exact HO_8.out⟩, ⟨by repeat (first | (with_reducible first | exact HB.out | apply below_alloc | apply pw_below_drewN | apply below_drew1) | exact HB.out)⟩⟩
              · rw [if_neg c10] at H
                exact absurd H (by simp)
          · rw [if_neg c6] at H
            exact absurd H (by simp)
        · rw [if_neg c5] at H
          exact absurd H (by simp)
      · rw [if_neg c4] at H
        have c4b0 : decide (x15_1 < (a0.size : Int)) = false := decide_eq_false c4
        clear c4
        replace H := Option.bind_eq_some_iff.mp H
        obtain ⟨t107, A200, H⟩ := H
        replace H : (if t107.toList = a0.toList then (some (strOfNums x8_1, 0)) else (some ((⟨#[]⟩ : ByteArray), 3))) = some (r1, r2) := H
        have A20 := Aside0.mk A200
        clear A200
        by_cases c21 : t107.toList = a0.toList
        · rw [if_pos c21] at H
          have c21b0 : (t107.toList == a0.toList) = true := beq_iff_eq.mpr c21
          have c21b1 : (t107.toList != a0.toList) = false := bne_eq_false_iff_eq.mpr c21
          clear c21
          simp only [Option.some.injEq, Prod.mk.injEq] at H
          obtain ⟨rfl, rfl⟩ := H
          go_wp2_with (first | (go_at_call 21; (with_reducible refine (code_write.calls k1 (strOfNums x8_1) a1 a2 t107 _ A20.out).mono ?_); rintro e w20 ⟨rfl, hb⟩; have n0_ := Aside0.mk (Bld.Holds.below (by (with_reducible repeat (first | apply Bld.Holds.alloc | apply Bld.Holds.drewN | apply Bld.Holds.drew)); exact HO_8.out) hb); have n1_ := Aside0.mk (below_step (by repeat (first | (with_reducible first | exact HB.out | apply below_alloc | apply pw_below_drewN | apply below_drew1) | exact HB.out)) hb); clear HO_8; clear HB; have HO_8 := n0_; have HB := n1_; clear n0_ n1_; clear hb) | (go_at_call 26; (with_reducible refine (Bld.string_any w.heap.size w.heap.size x8_1 _ ?hO ?hS).mono ?_); (case hO => exact (by (with_reducible repeat (first | apply Bld.Holds.alloc | apply Bld.Holds.drewN | apply Bld.Holds.drew)); exact HO_8.out)); (case hS => exact (below_size (by repeat (first | (with_reducible first | exact HB.out | apply below_alloc | apply pw_below_drewN | apply below_drew1) | exact HB.out)))); rintro e w24 ⟨rfl, ho, hb⟩; have n0_ := Aside0.mk (Below.trans (by repeat (first | (with_reducible first | exact HB.out | apply below_alloc | apply pw_below_drewN | apply below_drew1) | exact HB.out)) hb); have n1_ := Aside0.mk ho; clear HB; clear HO_8; have HB := n0_; have HO_8 := n1_; clear n0_ n1_; clear ho hb))
          go_ret2
          exact ⟨by first | rfl | (simp [errW_none, errW_some] <;> rfl) | (simp [*, errW_none, errW_some] <;> rfl), by repeat (first | (with_reducible first | exact HB.out | apply below_alloc | apply pw_below_drewN | apply below_drew1) | exact HB.out)⟩
        · rw [if_neg c21] at H
          have c21b0 : (t107.toList == a0.toList) = false := beq_eq_false_iff_ne.mpr c21
          have c21b1 : (t107.toList != a0.toList) = true := bne_iff_ne.mpr c21
          simp only [Option.some.injEq, Prod.mk.injEq] at H
          obtain ⟨rfl, rfl⟩ := H
          go_wp2_with (first | (go_at_call 21; (with_reducible refine (code_write.calls k1 (strOfNums x8_1) a1 a2 t107 _ A20.out).mono ?_); rintro e w21 ⟨rfl, hb⟩; have n0_ := Aside0.mk (Bld.Holds.below (by (with_reducible repeat (first | apply Bld.Holds.alloc | apply Bld.Holds.drewN | apply Bld.Holds.drew)); exact HO_8.out) hb); have n1_ := Aside0.mk (below_step (by repeat (first | (with_reducible first | exact HB.out | apply below_alloc | apply pw_below_drewN | apply below_drew1) | exact HB.out)) hb); clear HO_8; clear HB; have HO_8 := n0_; have HB := n1_; clear n0_ n1_; clear hb) | (go_at_call 26; (with_reducible refine (Bld.string_any w.heap.size w.heap.size x8_1 _ ?hO ?hS).mono ?_); (case hO => exact (by (with_reducible repeat (first | apply Bld.Holds.alloc | apply Bld.Holds.drewN | apply Bld.Holds.drew)); exact HO_8.out)); (case hS => exact (below_size (by repeat (first | (with_reducible first | exact HB.out | apply below_alloc | apply pw_below_drewN | apply below_drew1) | exact HB.out)))); rintro e w24 ⟨rfl, ho, hb⟩; have n0_ := Aside0.mk (Below.trans (by repeat (first | (with_reducible first | exact HB.out | apply below_alloc | apply pw_below_drewN | apply below_drew1) | exact HB.out)) hb); have n1_ := Aside0.mk ho; clear HB; clear HO_8; have HB := n0_; have HO_8 := n1_; clear n0_ n1_; clear ho hb))
          go_ret2
          exact ⟨by first | rfl | (simp [errW_none, errW_some] <;> rfl) | (simp [*, errW_none, errW_some] <;> rfl), by repeat (first | (with_reducible first | exact HB.out | apply below_alloc | apply pw_below_drewN | apply below_drew1) | exact HB.out)⟩


/-! ### code.Bytes: function 18 -/
def code_Bytes.f (a0 : Int) : Option (ByteArray) := some (strOfNums [a0 / 72057594037927936 % 256, a0 / 281474976710656 % 256, a0 / 1099511627776 % 256, a0 / 4294967296 % 256, a0 / 16777216 % 256, a0 / 65536 % 256, a0 / 256 % 256, a0 % 256])
theorem arr_string (w : World) (y0 y1 y2 y3 y4 y5 y6 y7 : Int) :
    (convert 39 9 (.slice (some ⟨w.heap.size, 0, none⟩) 8 8)).run Try.prog (w.alloc (.cells #[.int .u8 y0, .int .u8 y1, .int .u8 y2, .int .u8 y3, .int .u8 y4, .int .u8 y5, .int .u8 y6, .int .u8 y7] 44)) = .ok (.string (strOfNums [y0, y1, y2, y3, y4, y5, y6, y7])) (w.alloc (.cells #[.int .u8 y0, .int .u8 y1, .int .u8 y2, .int .u8 y3, .int .u8 y4, .int .u8 y5, .int .u8 y6, .int .u8 y7] 44)) := by
  refine run_convert_bytes_arg _ 39 5 Try.underlying39 Try.underlying5 w.heap.size 0 8 8 [y0, y1, y2, y3, y4, y5, y6, y7] rfl (fun i hi => ?_) 9 Try.underlying9
  rw [Lib.cell_of_heap (heap_alloc_new w _)]
  match i, hi with
  | 0, _ => rfl
  | 1, _ => rfl
  | 2, _ => rfl
  | 3, _ => rfl
  | 4, _ => rfl
  | 5, _ => rfl
  | 6, _ => rfl
  | 7, _ => rfl
set_option maxHeartbeats 4000000 in
set_option maxRecDepth 100000 in
theorem code_Bytes.calls (a0 : Int) (r : ByteArray) (w : World) (h : code_Bytes.f a0 = some r) :
    Calls Try.prog 18 #[.int .u64 a0] w fun e w' => e = .returned (.string r) ∧ Below w.heap.size w w' := by
  obtain rfl := Option.some.inj h
  clear h
  go_enter Try.func18, Try.ntmps18
  go_wp2
  refine wp_loop_rounds 9 ?_
  rw [rounds_succ]
  go_wp2
  rw [rounds_succ]
  go_wp2
  rw [rounds_succ]
  go_wp2
  rw [rounds_succ]
  go_wp2
  rw [rounds_succ]
  go_wp2
  rw [rounds_succ]
  go_wp2
  rw [rounds_succ]
  go_wp2
  rw [rounds_succ]
  go_wp2
  rw [rounds_succ]
  go_wp2
  rw [arr_string]
  simp only [Result.andThen]
  rw [Oper.upon_value]
  go_wp2
  go_ret
  exact ⟨rfl, (Below.refl _ _).alloc (Nat.le_refl _) _⟩

/-! ### bulletinref05.To16: function 14 -/
def digits16 : ByteArray := ⟨#[48, 49, 50, 51, 52, 53, 54, 55, 56, 57, 97, 98, 99, 100, 101, 102]⟩
def bulletinref05_To16.l0 : Nat → ByteArray → ByteArray → Int → Option (ByteArray)
  | 0, _, _, _ => none
  | k + 1, x0, x3, x5 => if x5 < (x0.size : Int) then (if 0 ≤ x5 then (if x3.size + 2 ≤ 9223372036854775807 then (bulletinref05_To16.l0 k x0 ((x3 ++ digits16.extract (bt x0 x5 / 16).toNat (bt x0 x5 / 16 + 1).toNat) ++ digits16.extract (bt x0 x5 % 16).toNat (bt x0 x5 % 16 + 1).toNat) (wrap64 (x5 + 1))) else (none)) else (none)) else (some x3)
def bulletinref05_To16.f (k : Nat) (a0 : ByteArray) : Option (ByteArray) := bulletinref05_To16.l0 k a0 (⟨#[]⟩ : ByteArray) 0
theorem bulletinref05_To16.mono_l : ∀ k, (∀ y0 y1 y2, LeO (bulletinref05_To16.l0 k y0 y1 y2) (bulletinref05_To16.l0 (k + 1) y0 y1 y2))
  | 0 => fun _ _ _ r h => by simp [bulletinref05_To16.l0] at h
  | k + 1 => by
    have ih0 := bulletinref05_To16.mono_l k
    · intro y0 y1 y2
      unfold bulletinref05_To16.l0
      repeat' first
      | (with_reducible exact ih0 _ _ _)
      | (with_reducible exact LeO.refl _)
      | (with_reducible exact LeO.none _)
      | (with_reducible refine LeO.ite ?_ ?_)
theorem bulletinref05_To16.mono : ∀ a0 k, LeO (bulletinref05_To16.f k a0) (bulletinref05_To16.f (k + 1) a0) := fun a0 k => bulletinref05_To16.mono_l k _ _ _
theorem extract_one_size (i : Int) (h0 : 0 ≤ i) (h1 : i ≤ 15) : (digits16.extract i.toNat (i + 1).toNat).size = 1 := by
  rw [ByteArray.size_extract]
  have : digits16.size = 16 := rfl
  omega
set_option maxHeartbeats 8000000 in
set_option maxRecDepth 100000 in
theorem bulletinref05_To16.calls (k : Nat) (a0 : ByteArray) (r : ByteArray) (w : World) (h : bulletinref05_To16.f k a0 = some r) :
    Calls Try.prog 14 #[.string a0] w fun e w' => e = .returned (.string r) ∧ Drawn0 w w' := by
  have H : (bulletinref05_To16.l0 k a0 (⟨#[]⟩ : ByteArray) 0) = some r := h
  clear h
  have H' := Aside0.mk H
  clear H
  go_enter Try.func14, Try.ntmps14
  go_wp2
  go_loopg [3, 5] k (fun kq v3 v5 w' => ∃ (x3_1 : ByteArray) (x5_1 : Int), v3 = .string x3_1 ∧ v5 = .int .i64 x5_1 ∧ Aside0 (bulletinref05_To16.l0 kq a0 x3_1 x5_1 = some r) ∧ Aside0 (kq ≤ k) ∧ Drawn0 w w')
  case atStart => exact ⟨(⟨#[]⟩ : ByteArray), 0, rfl, rfl, H', ⟨Nat.le_refl _⟩, by repeat (first | exact Drawn0.refl _ | apply Drawn0.step)⟩
  case round =>
    clear H'
    obtain ⟨x3_1, x5_1, rfl, rfl, HA, HK1, ⟨m1, rfl⟩⟩ := hrel
    cases gk with
    | zero => exact absurd HA.out (by simp [bulletinref05_To16.l0])
    | succ k1 =>
      have H := HA.out
      clear HA
      simp only [bulletinref05_To16.l0] at H
      by_cases c2 : x5_1 < (a0.size : Int)
      · rw [if_pos c2] at H
        have c2b0 : decide (x5_1 < (a0.size : Int)) = true := decide_eq_true c2
        by_cases c3 : 0 ≤ x5_1
        · rw [if_pos c3] at H
          have hx4 := bt_at a0 x5_1
          have hr := bt_range a0 x5_1
          obtain ⟨c, hc⟩ : ∃ c, bt a0 x5_1 = c := ⟨_, rfl⟩
          rw [hc] at hx4 hr H
          clear hc
          obtain ⟨hr0, hr1⟩ := hr
          by_cases c9 : x3_1.size + 2 ≤ 9223372036854775807
          · rw [if_pos c9] at H
            have H' := Aside0.mk H
            clear H
            have s1 := extract_one_size (c / 16) (by omega) (by omega)
            have s2 := extract_one_size (c % 16) (by omega) (by omega)
            obtain ⟨E1, hE1⟩ : ∃ E, digits16.extract (c / 16).toNat (c / 16 + 1).toNat = E := ⟨_, rfl⟩
            obtain ⟨E2, hE2⟩ : ∃ E, digits16.extract (c % 16).toNat (c % 16 + 1).toNat = E := ⟨_, rfl⟩
            rw [hE1] at s1 H'
            rw [hE2] at s2 H'
            have hs1 : ∀ W : World, (Instr.slice 9 (.string (⟨#[48, 49, 50, 51, 52, 53, 54, 55, 56, 57, 97, 98, 99, 100, 101, 102]⟩ : ByteArray)) (some (.int .u8 (c / 16))) (some (.int .u8 (c / 16 + 1))) none).run Try.prog W = .ok (.string E1) W := fun W => by
              rw [run_slice_string W 9 _ .u8 .u8 (c / 16) (c / 16 + 1) Try.underlying9 (by omega) (by omega) (by show c / 16 + 1 ≤ (16 : Int); omega)]
              exact congrArg (fun E => Result.ok (Value.string E) W) hE1
            have hs2 : ∀ W : World, (Instr.slice 9 (.string (⟨#[48, 49, 50, 51, 52, 53, 54, 55, 56, 57, 97, 98, 99, 100, 101, 102]⟩ : ByteArray)) (some (.int .u8 (c % 16))) (some (.int .u8 (c % 16 + 1))) none).run Try.prog W = .ok (.string E2) W := fun W => by
              rw [run_slice_string W 9 _ .u8 .u8 (c % 16) (c % 16 + 1) Try.underlying9 (by omega) (by omega) (by show c % 16 + 1 ≤ (16 : Int); omega)]
              exact congrArg (fun E => Result.ok (Value.string E) W) hE2
            clear hE1 hE2
            have z1 : x3_1.size + E1.size ≤ 9223372036854775807 := by omega
            have z2 : (x3_1 ++ E1).size + E2.size ≤ 9223372036854775807 := by rw [ByteArray.size_append]; omega
            clear s1 s2 c9
            replace c2 := eq_true c2
            replace c3 := eq_true c3
            go_wp2
            go_quiet (fail)
            go_wp2
            go_roundg k1
            case measure => have := HK1.out; omega
            case rel => exact ⟨(x3_1 ++ E1) ++ E2, wrap64 (x5_1 + 1), rfl, by first | rfl | (simp; done), H', ⟨by have := HK1.out; omega⟩, by repeat (first | exact Drawn0.refl _ | apply Drawn0.step)⟩
          · rw [if_neg c9] at H
            exact absurd H (by simp)
        · rw [if_neg c3] at H
          exact absurd H (by simp)
      · rw [if_neg c2] at H
        have c2b0 : decide (x5_1 < (a0.size : Int)) = false := decide_eq_false c2
        clear c2
        obtain rfl := Option.some.inj H
        go_wp2
        go_ret
        exact ⟨rfl, by repeat (first | exact Drawn0.refl _ | apply Drawn0.step)⟩

end Go.Proofs.Ytomdihpleoipkaa.PC
