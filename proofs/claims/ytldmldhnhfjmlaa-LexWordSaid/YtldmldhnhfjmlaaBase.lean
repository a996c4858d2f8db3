/- Texts as lists of numbers below 256, and what cutting and joining them does. No condition beyond those that each statement names. -/
import Derived.Test.YtldmldhnhfjmlaaMath
import Derived.Test.YtldmldhnhfjmlaaWMore
import Derived.Lib.Strings
namespace Go.Proofs.Ytldmldhnhfjmlaa.Base
open Go.RowKit Go.Proofs.YtldmldhnhfjmlaaW.PrintWords Go.Proofs.YtldmldhnhfjmlaaW.PrintLast Go.Proofs.YtldmldhnhfjmlaaW.PrintMore Go.Proofs.Ytldmldhnhfjmlaa.Math
set_option linter.unusedVariables false

def Bytes (l : List Nat) : Prop := ∀ c ∈ l, c < 256
theorem Bytes.drop {l : List Nat} (h : Bytes l) (n : Nat) : Bytes (l.drop n) := fun c hc => h c (List.mem_of_mem_drop hc)
theorem Bytes.take {l : List Nat} (h : Bytes l) (n : Nat) : Bytes (l.take n) := fun c hc => h c (List.mem_of_mem_take hc)
theorem Bytes.append {l k : List Nat} (h : Bytes l) (g : Bytes k) : Bytes (l ++ k) := fun c hc => (List.mem_append.1 hc).elim (h c) (g c)
theorem Bytes.tail {c : Nat} {l : List Nat} (h : Bytes (c :: l)) : Bytes l := fun x hx => h x (by simp [hx])
theorem Bytes.head {c : Nat} {l : List Nat} (h : Bytes (c :: l)) : c < 256 := h c (by simp)

def nats (s : ByteArray) : List Nat := s.data.toList.map UInt8.toNat
theorem nats_length (s : ByteArray) : (nats s).length = s.size := by rw [nats, List.length_map, data_length]
theorem nats_lt (s : ByteArray) : Bytes (nats s) := by
  intro c hc
  simp only [nats, List.mem_map] at hc
  obtain ⟨a, _, rfl⟩ := hc
  exact a.toNat_lt
theorem nats_inj {s t : ByteArray} (h : nats s = nats t) : s = t := by
  have h2 : s.data.toList = t.data.toList := by
    refine (List.map_inj_right (f := UInt8.toNat) ?_).1 h
    intro a b hab
    exact UInt8.toNat_inj.1 hab
  have h3 : s.data = t.data := by rw [← Array.toList_inj]; exact h2
  cases s; cases t
  simp only at h3
  rw [h3]
theorem nats_strOfNums {xs : List Int} (h : ∀ x ∈ xs, 0 ≤ x ∧ x < 256) : nats (strOfNums xs) = xs.map Int.toNat := by
  simp only [nats, strOfNums_data, List.map_map]
  refine List.map_congr_left fun x hx => ?_
  have := h x hx
  simp only [Function.comp_apply, UInt8.toNat_ofNat']
  omega
theorem w64 {x : Int} (h0 : -9223372036854775808 ≤ x) (h1 : x ≤ 9223372036854775807) : wrap64 x = x := by unfold wrap64; omega
def ints (o : List Nat) : List Int := o.map fun (x : Nat) => ((x : Nat) : Int)
def str (o : List Nat) : ByteArray := strOfNums (ints o)
theorem ints_append (a b : List Nat) : ints (a ++ b) = ints a ++ ints b := List.map_append
theorem ints_length (a : List Nat) : (ints a).length = a.length := List.length_map _
theorem str_append (a b : List Nat) : str (a ++ b) = str a ++ str b := by
  have h : (str (a ++ b)).data = (str a ++ str b).data := by
    rw [ByteArray.data_append]
    simp [str, strOfNums, ints]
  cases hx : str (a ++ b) with | mk x =>
  cases hy : str a ++ str b with | mk y =>
  rw [hx, hy] at h
  exact congrArg _ h
theorem str_size (a : List Nat) : (str a).size = a.length := by rw [str, strOfNums_size, ints_length]
theorem nats_str {o : List Nat} (h : Bytes o) : nats (str o) = o := by
  rw [str, nats_strOfNums (by
    intro x hx
    simp only [ints, List.mem_map] at hx
    obtain ⟨y, hy, rfl⟩ := hx
    have := h y hy
    omega)]
  simp only [ints, List.map_map]
  conv => rhs; rw [← List.map_id o]
  exact List.map_congr_left fun x _ => by simp
theorem str_nats (s : ByteArray) : str (nats s) = s := nats_inj (nats_str (nats_lt s))
theorem toList_inj {s t : ByteArray} : s.toList = t.toList ↔ s = t := by
  rw [ByteArray.toList_eq, ByteArray.toList_eq]
  constructor
  · intro h
    exact nats_inj (by rw [nats, nats, h])
  · rintro rfl; rfl
theorem str_nil : str [] = (⟨#[]⟩ : ByteArray) := rfl
theorem str_inj {a b : List Nat} (ha : Bytes a) (hb : Bytes b) (h : str a = str b) : a = b := by rw [← nats_str ha, h, nats_str hb]
theorem toList_nil {l : List Nat} : (str l).toList = ([] : List UInt8) ↔ l = [] := by
  rw [ByteArray.toList_eq]
  constructor
  · intro h
    have := congrArg List.length h
    rw [data_length, str_size] at this
    exact List.eq_nil_of_length_eq_zero this
  · rintro rfl; rfl
theorem bt_str {l : List Nat} (h : Bytes l) (i : Nat) : bt (str l) (i : Int) = ((l.getD i 0 : Nat) : Int) := by
  have hn := nats_str h
  rcases Nat.lt_or_ge i l.length with hi | hi
  · unfold bt
    rw [dif_pos (by rw [str_size]; simpa using hi)]
    have e2 : (str l).data.toList[i]? = some ((str l)[i]'(by rw [str_size]; exact hi)) := by
      rw [List.getElem?_eq_getElem (by rw [data_length, str_size]; exact hi)]
      rfl
    have e : (nats (str l))[i]? = some (l.getD i 0) := by rw [hn, List.getD_eq_getElem?_getD, List.getElem?_eq_getElem hi]; rfl
    simp only [nats, List.getElem?_map, e2, Option.map_some, Option.some.injEq] at e
    simp only [Int.toNat_natCast]
    exact congrArg _ e
  · unfold bt
    rw [dif_neg (by rw [str_size]; simpa using hi), List.getD_eq_getElem?_getD, List.getElem?_eq_none hi]
    rfl
theorem nats_extract (s : ByteArray) (a b : Nat) : nats (s.extract a b) = ((nats s).drop a).take (b - a) := by
  rw [nats, Go.Lib.extract_data, List.map_take, List.map_drop, nats]
theorem extract_from {l : List Nat} (h : Bytes l) (i : Nat) : (str l).extract i (str l).size = str (l.drop i) := by
  refine nats_inj ?_
  rw [nats_extract, nats_str h, nats_str (h.drop i), str_size]
  exact List.take_of_length_le (by rw [List.length_drop]; omega)
theorem extract_to {l : List Nat} (h : Bytes l) (i : Nat) : (str l).extract 0 i = str (l.take i) := by
  refine nats_inj ?_
  rw [nats_extract, nats_str h, nats_str (h.take i)]
  simp
theorem extract_one {l : List Nat} (h : Bytes l) (i : Nat) (hi : i < l.length) : (str l).extract i (i + 1) = str [l.getD i 0] := by
  refine nats_inj ?_
  rw [nats_extract, nats_str h, List.drop_eq_getElem_cons hi, show i + 1 - i = 0 + 1 by omega, List.take_succ_cons, List.take_zero, nats_str (by
    intro c hc
    simp only [List.mem_singleton] at hc
    subst hc
    rw [List.getD_eq_getElem?_getD, List.getElem?_eq_getElem hi]
    exact h _ (List.getElem_mem _))]
  simp [List.getD_eq_getElem?_getD, List.getElem?_eq_getElem hi]
theorem drop_cons {l : List Nat} {i : Nat} (hi : i < l.length) : l.drop i = l.getD i 0 :: l.drop (i + 1) := by
  rw [List.drop_eq_getElem_cons hi, List.getD_eq_getElem?_getD, List.getElem?_eq_getElem hi]
  rfl
theorem drop_head (l : List Nat) (i : Nat) : (l.drop i).headD 0 = l.getD i 0 := by
  rw [List.getD_eq_getElem?_getD, List.headD_eq_head?_getD, List.head?_drop]
theorem getD_byte {l : List Nat} (h : Bytes l) (i : Nat) : l.getD i 0 < 256 := by
  rw [List.getD_eq_getElem?_getD]
  rcases Nat.lt_or_ge i l.length with hi | hi
  · rw [List.getElem?_eq_getElem hi]; exact h _ (List.getElem_mem _)
  · rw [List.getElem?_eq_none hi]; decide
end Go.Proofs.Ytldmldhnhfjmlaa.Base
