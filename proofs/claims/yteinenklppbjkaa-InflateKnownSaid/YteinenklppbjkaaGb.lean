/- Words of use everywhere. Bits, plainly: rows of bits, the numbers that they are, the bytes that they lie in. The writer of bits, walked. Bytes of a writer; the reader of bits, walked. Numbers that are read: plainly; the reader's Get and Align, walked. The document's own bits (vignetteref05), walked: May, Bits, Number. The document's own bits, walked: Number. The document's own bits, walked: Get. The document's own bits, walked: Of, Bytes. The example of the chapter, walked. Bits, plainly: what is laid is read. The contracts of package bits and of its reference, in whatever heap. The contracts of the reference of bits, in whatever heap. -/
import Derived.Test.YteinenklppbjkaaTb
import Derived.Laws.Strings
import Derived.Test.YteinenklppbjkaaG2
import Derived.Test.YteinenklppbjkaaAb18
import Derived.Test.YteinenklppbjkaaAb20
import Derived.Test.YteinenklppbjkaaAb22


set_option linter.unusedVariables false

set_option linter.unusedSimpArgs false

open Go.RowKit

namespace Go.Proofs.Yteinenklppbjkaa

theorem subA_nil (M : AH) : subA M [] := by cases M <;> trivial
theorem offS_ne {c l off sz : Nat} (h : c ≠ l) : offS c l off sz = off + l * sz := by unfold offS; rw [if_neg h]
theorem offS_1 {c l off : Nat} (h : c ≠ l) : offS c l off 1 = off + l := by unfold offS; rw [if_neg h, Nat.mul_one]
theorem nd_t {p : Prop} [Decidable p] (h : (!decide p) = true) : ¬ p := by simpa using h
theorem nd_f {p : Prop} [Decidable p] (h : (!decide p) = false) : p := by simpa using h
theorem nbH_app {k : Nat} : ∀ {M N : AH}, nbH k M → nbH k N → nbH k (M ++ N)
  | [], N, _, h => h
  | o :: M, N, ⟨h1, h2⟩, h => ⟨h1, nbH_app h2 h⟩
theorem bget {b : List Int} {m : Int} (h0 : ∀ x ∈ b, 0 ≤ x ∧ x < m) (k : Nat) (hk : k < b.length) : 0 ≤ b.getD k 0 ∧ b.getD k 0 < m := by
  have e : b.getD k 0 = b[k] := by simp [List.getD_eq_getElem?_getD, hk]
  rw [e]; exact h0 _ (List.getElem_mem hk)
theorem getD_get {b : List Int} {k : Nat} (hk : k < b.length) : b.getD k 0 = b[k] := by simp [List.getD_eq_getElem?_getD, hk]

/-- A function of numbers alone. -/
theorem CallA.at0 {P : Program} {g : Nat} {args : List AV} {v : AV} {M : AH} {K Kp : AV → AH → Prop} (h : CallA P g args [] (fun r M => r = v ∧ M = []) (fun _ _ => False)) (ha : ∀ m, AV.rnl [] m args = args) (hw : AV.w0l [] args = true) (hv : ∀ m, v.rn [] m = v) (hK : K v M) : CallA P g args M K Kp := by
  refine CallA.lift [] h (ha _) (by simp [apartT, hw]) trivial trivial ?_ (fun _ _ h => h.elim)
  rintro r M' ⟨rfl, rfl⟩
  rw [hv]
  rw [← List.append_nil M] at hK
  exact ⟨rfl, hK⟩
/-! Strings of bytes. -/
theorem bytesStr_list (xs : List Int) : (bytesStr xs).toList = xs.map (fun n => UInt8.ofNat n.toNat) := by
  have key : ∀ (l : List Int) (r : ByteArray), (l.foldl (fun r n => r.push (UInt8.ofNat n.toNat)) r).data.toList = r.data.toList ++ l.map (fun n => UInt8.ofNat n.toNat) := by
    intro l
    induction l with
    | nil => intro r; simp
    | cons x l ih => intro r; rw [List.foldl_cons, ih]; simp
  rw [ByteArray.toList_eq]
  have := key xs ByteArray.empty
  simpa [bytesStr] using this
theorem ofNat_inj {x y : Int} (hx : 0 ≤ x ∧ x < 256) (hy : 0 ≤ y ∧ y < 256) (h : UInt8.ofNat x.toNat = UInt8.ofNat y.toNat) : x = y := by
  have e := congrArg UInt8.toNat h
  simp only [UInt8.toNat_ofNat'] at e
  omega
theorem map_inj : ∀ {xs ys : List Int}, (∀ x ∈ xs, 0 ≤ x ∧ x < 256) → (∀ x ∈ ys, 0 ≤ x ∧ x < 256) → xs.map (fun n => UInt8.ofNat n.toNat) = ys.map (fun n => UInt8.ofNat n.toNat) → xs = ys
  | [], [], _, _, _ => rfl
  | [], _ :: _, _, _, h => by cases h
  | _ :: _, [], _, _, h => by cases h
  | x :: xs, y :: ys, hx, hy, h => by
    simp only [List.map_cons, List.cons.injEq] at h
    rw [ofNat_inj (hx x (by simp)) (hy y (by simp)) h.1, map_inj (fun z hz => hx z (by simp [hz])) (fun z hz => hy z (by simp [hz])) h.2]
theorem str_eq {xs ys : List Int} (hx : ∀ x ∈ xs, 0 ≤ x ∧ x < 256) (hy : ∀ x ∈ ys, 0 ≤ x ∧ x < 256) : ((bytesStr xs).toList == (bytesStr ys).toList) = decide (xs = ys) := by
  rw [bytesStr_list, bytesStr_list]
  by_cases h : xs = ys
  · subst h; simp
  · have : ¬ xs.map (fun n => UInt8.ofNat n.toNat) = ys.map (fun n => UInt8.ofNat n.toNat) := fun e => h (map_inj hx hy e)
    simp [h]
    exact this
theorem empty_bytes : ByteArray.empty = bytesStr [] := rfl
/-- A string constant's bytes. -/
theorem str_const {xs : List Int} (l : List UInt8) (h : xs.map (fun n => UInt8.ofNat n.toNat) = l) : ((bytesStr xs).toList == (ByteArray.mk l.toArray).toList) = true := by
  rw [bytesStr_list, ByteArray.toList_mk, h]; simp
end Go.Proofs.Yteinenklppbjkaa


set_option linter.unusedVariables false

set_option linter.unusedSimpArgs false

open Go.RowKit

namespace Go.Proofs.Yteinenklppbjkaa

def num : List Bool → Int
  | [] => 0
  | b :: l => (if b then 1 else 0) + 2 * num l
def bitsOf : Int → Nat → List Bool
  | _, 0 => []
  | v, n + 1 => decide (v % 2 = 1) :: bitsOf (v / 2) n
def packB : Nat → List Bool → List Int
  | 0, _ => []
  | k + 1, l => num (l.take 8) :: packB k (l.drop 8)
def packF (row : List Bool) : List Int := packB (row.length / 8) row
def rest (row : List Bool) : List Bool := row.drop (8 * (row.length / 8))

theorem num_nonneg : ∀ l : List Bool, 0 ≤ num l
  | [] => Int.le_refl 0
  | b :: l => by have := num_nonneg l; simp only [num]; split <;> omega
theorem num_lt : ∀ l : List Bool, num l < 2 ^ l.length
  | [] => by simp [num]
  | b :: l => by
    have := num_lt l
    simp only [num, List.length_cons, Int.pow_succ]
    split <;> omega
theorem num_append : ∀ l l' : List Bool, num (l ++ l') = num l + 2 ^ l.length * num l'
  | [], l' => by simp [num]
  | b :: l, l' => by
    simp only [List.cons_append, num, num_append l l', List.length_cons, Int.pow_succ, Int.mul_add]
    have : 2 ^ l.length * 2 * num l' = 2 * (2 ^ l.length * num l') := by rw [Int.mul_comm (2 ^ l.length) 2, Int.mul_assoc]
    omega
theorem bitsOf_length : ∀ (n : Nat) (v : Int), (bitsOf v n).length = n
  | 0, v => rfl
  | n + 1, v => by simp [bitsOf, bitsOf_length n]
theorem num_bitsOf : ∀ (n : Nat) (v : Int), 0 ≤ v → v < 2 ^ n → num (bitsOf v n) = v
  | 0, v, h1, h2 => by simp [bitsOf, num] at *; omega
  | n + 1, v, h1, h2 => by
    rw [Int.pow_succ] at h2
    simp only [bitsOf, num, decide_eq_true_eq]
    rw [num_bitsOf n (v / 2) (by omega) (by omega)]
    split <;> omega
theorem packB_length : ∀ (k : Nat) (l : List Bool), (packB k l).length = k
  | 0, l => rfl
  | k + 1, l => by simp [packB, packB_length k]
theorem packF_length (row : List Bool) : (packF row).length = row.length / 8 := packB_length _ _
theorem rest_length (row : List Bool) : (rest row).length = row.length % 8 := by simp [rest]; omega
theorem packB_byte : ∀ (k : Nat) (l : List Bool), ∀ x ∈ packB k l, 0 ≤ x ∧ x < 256
  | 0, l, x, h => by cases h
  | k + 1, l, x, h => by
    simp only [packB, List.mem_cons] at h
    rcases h with rfl | h
    · refine ⟨num_nonneg _, Int.lt_of_lt_of_le (num_lt _) ?_⟩
      have : (l.take 8).length ≤ 8 := by simp; omega
      calc (2 : Int) ^ (l.take 8).length ≤ 2 ^ 8 := by exact_mod_cast Nat.pow_le_pow_right (by omega) this
        _ = 256 := by decide
    · exact packB_byte k _ x h
theorem packB_append : ∀ (k j : Nat) (l : List Bool), packB (k + j) l = packB k l ++ packB j (l.drop (8 * k))
  | 0, j, l => by simp [packB]
  | k + 1, j, l => by
    rw [show k + 1 + j = (k + j) + 1 from by omega]
    simp only [packB, packB_append k j, List.drop_drop, List.cons_append]
    rw [show 8 + 8 * k = 8 * (k + 1) from by omega]
theorem packB_take : ∀ (k : Nat) (l l' : List Bool), 8 * k ≤ l.length → packB k (l ++ l') = packB k l
  | 0, l, l', _ => rfl
  | k + 1, l, l', h => by
    simp only [packB]
    rw [List.take_append_of_le_length (by omega), List.drop_append_of_le_length (by omega), packB_take k _ _ (by simp; omega)]

/-! The writer's own way. -/
def layL (xs : List Int) (a n : Int) : Nat → List Int × Int × Int
  | 0 => (xs, a, n)
  | k + 1 => layL (xs ++ [a % 256]) (shrF .u32 a 8) (n - 8) k

theorem shrF_num8 (l : List Bool) (h : 8 ≤ l.length) : shrF .u32 (num l) 8 = num (l.drop 8) ∧ num l % 256 = num (l.take 8) := by
  have h1 := num_append (l.take 8) (l.drop 8)
  rw [List.take_append_drop] at h1
  have h2 : (l.take 8).length = 8 := by simp; omega
  have h3 := num_lt (l.take 8)
  have h4 := num_nonneg (l.take 8)
  rw [h2] at h1 h3
  have e : (2 : Int) ^ 8 = 256 := by decide
  rw [e] at h1 h3
  have h5 : shrF .u32 (num l) 8 = num l / 256 := by
    simp only [shrF, IntKind.bits]
    rw [Int.fdiv_eq_ediv_of_nonneg _ (by decide)]; rfl
  constructor
  · rw [h5]; omega
  · omega

theorem layL_num : ∀ (k : Nat) (xs : List Int) (l : List Bool), k = l.length / 8 → layL xs (num l) l.length k = (xs ++ packB k l, num (l.drop (8 * k)), ((l.length % 8 : Nat) : Int))
  | 0, xs, l, h => by
    simp only [layL, packB, List.append_nil, Nat.mul_zero, List.drop_zero, Prod.mk.injEq, true_and]; omega
  | k + 1, xs, l, h => by
    obtain ⟨h1, h2⟩ := shrF_num8 l (by omega)
    have h3 := layL_num k (xs ++ [num (l.take 8)]) (l.drop 8) (by simp; omega)
    simp only [layL, h1, h2]
    have : ((l.length : Nat) : Int) - 8 = ((l.drop 8).length : Nat) := by simp; omega
    rw [this, h3]
    simp only [packB, List.append_assoc, List.singleton_append, List.drop_drop, Prod.mk.injEq, true_and]
    refine ⟨by congr 2; omega, by simp; omega⟩

theorem or_u32 {a b : Nat} (ha : a < 2 ^ 32) (hb : b < 2 ^ 32) : bitF .or .u32 (a : Int) (b : Int) = ((a ||| b : Nat) : Int) := by
  have h1 : (BitVec.ofInt 32 (a : Int) ||| BitVec.ofInt 32 (b : Int)).toNat = a ||| b := by
    rw [BitVec.toNat_or, BitVec.ofInt_natCast, BitVec.ofInt_natCast, BitVec.toNat_ofNat, BitVec.toNat_ofNat, Nat.mod_eq_of_lt ha, Nat.mod_eq_of_lt hb]
  have h2 : (a ||| b) < 2 ^ 32 := Nat.or_lt_two_pow ha hb
  have h3 : IntKind.u32.wrap ((a ||| b : Nat) : Int) = ((a ||| b : Nat) : Int) := by
    generalize (a ||| b) = z at *
    simp [IntKind.wrap, IntKind.bits, IntKind.signed]; omega
  show IntKind.u32.wrap ((BitVec.ofInt 32 (a : Int) ||| BitVec.ofInt 32 (b : Int)).toNat : Int) = _
  rw [h1, h3]
theorem or_shl {a v : Int} {n k : Nat} (ha0 : 0 ≤ a) (ha : a < 2 ^ n) (hv0 : 0 ≤ v) (hv : v < 2 ^ k) (hnk : n + k ≤ 32) : bitF .or .u32 a (shlF .u32 v n) = a + 2 ^ n * v := by
  obtain ⟨a, rfl⟩ := Int.eq_ofNat_of_zero_le ha0
  obtain ⟨v, rfl⟩ := Int.eq_ofNat_of_zero_le hv0
  have ha' : a < 2 ^ n := by exact_mod_cast ha
  have hv' : v < 2 ^ k := by exact_mod_cast hv
  have hlt : v * 2 ^ n < 2 ^ 32 := by
    calc v * 2 ^ n < 2 ^ k * 2 ^ n := Nat.mul_lt_mul_of_pos_right hv' (Nat.pow_pos (by omega))
      _ = 2 ^ (k + n) := (Nat.pow_add 2 k n).symm
      _ ≤ 2 ^ 32 := Nat.pow_le_pow_right (by omega) (by omega)
  have ha32 : a < 2 ^ 32 := Nat.lt_of_lt_of_le ha' (Nat.pow_le_pow_right (by omega) (by omega))
  have e1 : shlF .u32 (v : Int) n = ((v * 2 ^ n : Nat) : Int) := by
    simp only [shlF, IntKind.bits, Int.toNat_natCast, Nat.min_eq_left (show n ≤ 32 by omega)]
    have : (v : Int) * 2 ^ n = ((v * 2 ^ n : Nat) : Int) := by push_cast; rfl
    rw [this]
    simp [IntKind.wrap, IntKind.bits, IntKind.signed]
    omega
  rw [e1]
  have hor : a ||| v * 2 ^ n = v * 2 ^ n + a := by
    rw [Nat.or_comm, Nat.mul_comm, Nat.two_pow_add_eq_or_of_lt ha']
  rw [or_u32 ha32 hlt, hor]
  push_cast
  rw [Int.mul_comm, Int.add_comm]

/-- What a number that is laid does to a writer. -/
theorem layL_row (row : List Bool) (v : Int) (k : Nat) (hk : k ≤ 24) (h0 : 0 ≤ v) (hv : v < 2 ^ k) :
    layL (packF row) (bitF .or .u32 (num (rest row)) (shlF .u32 v ((row.length % 8 : Nat) : Int))) (((row.length % 8 : Nat) : Int) + k) ((row.length % 8 + k) / 8) =
      (packF (row ++ bitsOf v k), num (rest (row ++ bitsOf v k)), (((row ++ bitsOf v k).length % 8 : Nat) : Int)) := by
  have hr := rest_length row
  have hn := num_lt (rest row)
  rw [hr] at hn
  rw [or_shl (num_nonneg _) hn h0 hv (by omega)]
  have e1 : num (rest row) + 2 ^ (row.length % 8) * v = num (rest row ++ bitsOf v k) := by
    rw [num_append, hr, num_bitsOf k v h0 hv]
  have hl : (rest row ++ bitsOf v k).length = row.length % 8 + k := by simp [hr, bitsOf_length]
  have e2 : ((row.length % 8 : Nat) : Int) + k = ((rest row ++ bitsOf v k).length : Nat) := by rw [hl]; push_cast; rfl
  rw [e1, e2, layL_num _ _ _ (by rw [hl])]
  have hrl : row.length = 8 * (row.length / 8) + row.length % 8 := by omega
  have hL : (row ++ bitsOf v k).length / 8 = row.length / 8 + (row.length % 8 + k) / 8 := by simp [bitsOf_length]; omega
  have hd : (row ++ bitsOf v k).drop (8 * (row.length / 8)) = rest row ++ bitsOf v k := by
    rw [List.drop_append_of_le_length (by omega)]; rfl
  simp only [Prod.mk.injEq]
  refine ⟨?_, ?_, ?_⟩
  · unfold packF
    rw [hL, packB_append, hd, packB_take (row.length / 8) row _ (by omega)]
  · unfold rest
    rw [hL, Nat.mul_add, ← List.drop_drop, hd]; rfl
  · rw [hl]; simp [bitsOf_length]
end Go.Proofs.Yteinenklppbjkaa



set_option linter.unusedVariables false

set_option linter.unusedSimpArgs false

open Go.RowKit

namespace Go.Proofs.Yteinenklppbjkaa

set_option maxRecDepth 10000

theorem may_call {M : AH} {K Kp : AV → AH → Prop} {v n : Int} (h : ∀ b : Bool, (b = true ↔ (0 ≤ n ∧ n ≤ 24 ∧ shrF .u32 v n = 0)) → K (.bo b) M) : CallA Try.prog 39 [.int .u32 v, .int .i64 n] M K Kp := by
  refine walk39 (fun _ => []) [] rfl ?_
  refine And.intro (fun h1 => And.intro (fun h2 => And.intro ?_ ?_) (fun h2 => ?_)) (fun h1 => ?_)
  all_goals simp only [decide_eq_true_eq, decide_eq_false_iff_not] at h1
  · exact h1
  all_goals refine h _ ?_
  · simp only [decide_eq_true_eq] at *
    simp only [*, true_and]
  · simp only [decide_eq_true_eq, decide_eq_false_iff_not] at *
    simp only [*, false_and, and_false]; simp
  · simp only [h1, false_and]; simp

/-- A writer: its two objects. -/
def wr (g : Nat) (c : Nat) (xs : List Int) (a n : Int) : AH := [.one true 0 (.cells [.sl 1 g 0 xs.length c, .int .u32 a, .int .i64 n]), .one true g (.ints .u8 xs c)]
def wrA (row : List Bool) (g c : Nat) : AH := wr g c (packF row) (num (rest row)) ((row.length % 8 : Nat) : Int)

theorem len_call {g c : Nat} {xs : List Int} {a n : Int} (hn : 0 ≤ n ∧ n < 8) (hl : xs.length ≤ 1048576) {K Kp : AV → AH → Prop}
    (h : K (.int .i64 (8 * xs.length + n)) (wr g c xs a n)) : CallA Try.prog 40 [.ptr 0 0 0] (wr g c xs a n) K Kp := by
  refine walk40 (fun _ => [0]) [] rfl ?_
  repeat (refine And.intro (by first | exact rfl | omega) ?_)
  exact h

theorem lay_call {xs : List Int} {v a n k : Int} {g c : Nat} (hn : 0 ≤ n ∧ n < 8) (hk : 0 ≤ k ∧ k ≤ 32) (hl : xs.length ≤ 1048576) (hxc : xs.length ≤ c) {Kp} :
    CallA Try.prog 38 [.ptr 0 0 0, .int .u32 v, .int .i64 k] (wr g c xs a n)
      (fun r M => ∃ g' c' xs' a' n', r = .tup [] ∧ M = wr g' c' xs' a' n' ∧ xs'.length ≤ c' ∧ layL xs (bitF .or .u32 a (shlF .u32 v n)) (n + k) ((n + k).toNat / 8) = (xs', a', n')) Kp := by
  refine walk38 (fun _ => [0]) [] rfl ?_
  repeat (refine And.intro (by first | exact rfl | omega) ?_)
  refine WA.loop (σ := Nat × Nat × List Int × Int × Int) (fun (g', c', xs', a', n') => xs'.length ≤ c' ∧ 0 ≤ n' ∧ n' ≤ 40 ∧ xs'.length * 8 + n' ≤ 8 * xs.length + 40 ∧ layL xs (bitF .or .u32 a (shlF .u32 v n)) (n + k) ((n + k).toNat / 8) = layL xs' a' n' (n'.toNat / 8))
    (fun (g', c', xs', a', n') => n'.toNat) (fun _ => [(0, .ptr 0 0 0)]) (fun (g', c', xs', a', n') => wr g' c' xs' a' n') (g, c, xs, bitF .or .u32 a (shlF .u32 v n), n + k) tb_ok mixed (by kernel_rfl)
    ⟨?_, ⟨rfl, trivial⟩, ⟨rfl, rfl, trivial⟩⟩ (fun _ => rfl) (fun _ => rfl) (fun _ => ⟨rfl, trivial, trivial⟩) ?_
  · refine ⟨by omega, by omega, by omega, by omega, rfl⟩
  · rintro ⟨g', c', xs', a', n'⟩ ⟨h0, h1, h2, h3, h4⟩ d
    repeat (refine And.intro (by first | exact rfl | omega) ?_)
    refine And.intro (fun hc => ?_) (fun hc => ?_)
    · simp only [decide_eq_true_eq] at hc
      repeat (refine And.intro (by first | exact rfl | exact Nat.le_of_ble_eq_true rfl | omega) ?_)
      intro ys hys
      obtain rfl : ys = [a' % 256] := hys
      repeat (refine And.intro (by first | exact rfl | omega | (dsimp only; omega)) ?_)
      intro c1 hc1
      repeat (refine And.intro (by first | exact rfl | omega) ?_)
      refine ⟨(g' + 1, c1, xs' ++ [a' % 256], shrF .u32 a' 8, n' - 8), ⟨⟨by simp; omega, by omega, by omega, by simp; omega, ?_⟩, by simp only; omega⟩, ⟨rfl, trivial⟩, ⟨?_, rfl, trivial⟩⟩
      · rw [h4, show n'.toNat / 8 = (n' - 8).toNat / 8 + 1 from by omega]; rfl
      · simp only [wr, List.length_append, List.length_cons, List.length_nil]; rfl
    · simp only [decide_eq_false_iff_not] at hc
      refine ⟨g', c', xs', a', n', rfl, rfl, h0, ?_⟩
      have : n'.toNat / 8 = 0 := by omega
      rw [h4, this]; rfl

/-- Put, plainly. -/
def mayB (v n : Int) : Bool := decide (0 ≤ n ∧ n ≤ 24 ∧ v < 2 ^ n.toNat)
def putF (row : List Bool) (v n : Int) : List Bool × Int :=
  if mayB v n = false then (row, 1) else if row.length + n > 8388608 then (row, 2) else (row ++ bitsOf v n.toNat, 0)

theorem may_iff {v n : Int} (hv : 0 ≤ v) : (0 ≤ n ∧ n ≤ 24 ∧ shrF .u32 v n = 0) ↔ mayB v n = true := by
  simp only [mayB, decide_eq_true_eq]
  constructor
  · rintro ⟨h1, h2, h3⟩
    refine ⟨h1, h2, ?_⟩
    simp only [shrF, IntKind.bits] at h3
    rw [Nat.min_eq_left (by omega), Int.fdiv_eq_ediv_of_nonneg _ (Int.le_of_lt (Int.pow_pos (by decide)))] at h3
    have hp : (0 : Int) < 2 ^ n.toNat := Int.pow_pos (by decide)
    exact Int.lt_of_not_ge fun hge => by
      have := Int.ediv_le_ediv hp hge
      rw [Int.ediv_self (by omega)] at this
      omega
  · rintro ⟨h1, h2, h3⟩
    refine ⟨h1, h2, ?_⟩
    simp only [shrF, IntKind.bits]
    rw [Nat.min_eq_left (by omega), Int.fdiv_eq_ediv_of_nonneg _ (Int.le_of_lt (Int.pow_pos (by decide)))]
    exact Int.ediv_eq_zero_of_lt hv h3

theorem put_call {row : List Bool} {v n : Int} {g c : Nat} (hv : 0 ≤ v) (hr : row.length ≤ 8388608) (hc : (packF row).length ≤ c) {Kp} :
    CallA Try.prog 21 [.ptr 0 0 0, .int .u32 v, .int .i64 n] (wrA row g c)
      (fun r M => ∃ g' c', r = .int .i64 (putF row v n).2 ∧ M = wrA (putF row v n).1 g' c' ∧ (packF (putF row v n).1).length ≤ c' ∧ (putF row v n).1.length ≤ 8388608) Kp := by
  have hpl := packF_length row
  refine walk21 (fun _ => [0]) [] rfl ?_
  repeat (refine And.intro (by first | exact rfl | omega) ?_)
  refine may_call fun b hb => ?_
  rw [may_iff hv] at hb
  have hmay : mayB v n = b := by cases b <;> cases hm : mayB v n <;> simp_all
  clear hb
  refine And.intro (fun h1 => ?_) (fun h1 => ?_)
  · have h1' : b = false := by simpa using h1
    subst h1'
    have e : putF row v n = (row, 1) := by simp [putF, hmay]
    rw [e]
    exact ⟨g, c, rfl, rfl, hc, hr⟩
  · have h1' : b = true := by simpa using h1
    subst h1'
    have hm := hmay
    simp only [mayB, decide_eq_true_eq] at hm
    refine len_call (by omega) (by omega) ?_
    repeat (refine And.intro (by first | exact rfl | omega) ?_)
    have hlen : (8 * ((packF row).length : Int) + ((row.length % 8 : Nat) : Int)) = row.length := by rw [hpl]; omega
    refine And.intro (fun h2 => ?_) (fun h2 => ?_)
    · simp only [decide_eq_true_eq] at h2
      rw [hlen] at h2
      have e : putF row v n = (row, 2) := by simp [putF, hmay, h2]
      rw [e]
      exact ⟨g, c, rfl, rfl, hc, hr⟩
    · simp only [decide_eq_false_iff_not] at h2
      rw [hlen] at h2
      refine CallA.mono (lay_call (by omega) (by omega) (by omega) hc) ?_ (fun _ _ h => h)
      rintro r M ⟨g', c', xs', a', n', rfl, rfl, hxc, hL⟩
      obtain ⟨k, rfl⟩ := Int.eq_ofNat_of_zero_le hm.1
      rw [show (((row.length % 8 : Nat) : Int) + (k : Int)).toNat / 8 = (row.length % 8 + k) / 8 from by omega, layL_row row v k (by omega) hv (by simpa using hm.2.2)] at hL
      injection hL with e1 e2; injection e2 with e2 e3
      subst e1; subst e2; subst e3
      have e : putF row v k = (row ++ bitsOf v k, 0) := by simp only [putF, hmay, Int.toNat_natCast]; rw [if_neg (by simp), if_neg (by omega)]
      rw [e]
      exact ⟨g', c', rfl, rfl, hxc, by simp [bitsOf_length]; omega⟩

/-- Align, plainly. -/
def alignF (row : List Bool) : List Bool := row ++ bitsOf 0 ((8 - row.length % 8) % 8)
theorem align_call {row : List Bool} {g c : Nat} (hr : row.length ≤ 8388608) (hc : (packF row).length ≤ c) {Kp} :
    CallA Try.prog 22 [.ptr 0 0 0] (wrA row g c)
      (fun r M => ∃ g' c', r = .int .i64 0 ∧ M = wrA (alignF row) g' c' ∧ (packF (alignF row)).length ≤ c' ∧ (alignF row).length ≤ 8388608) Kp := by
  have hpl := packF_length row
  refine walk22 (fun _ => [0]) [] rfl ?_
  repeat (refine And.intro (by first | exact rfl | omega) ?_)
  refine And.intro (fun h1 => ?_) (fun h1 => ?_)
  · simp only [decide_eq_true_eq] at h1
    repeat (refine And.intro (by first | exact rfl | omega) ?_)
    refine CallA.mono (lay_call (by omega) (by omega) (by omega) hc) ?_ (fun _ _ h => h)
    rintro r M ⟨g', c', xs', a', n', rfl, rfl, hxc, hL⟩
    have hk : (8 - row.length % 8) % 8 = 8 - row.length % 8 := by omega
    rw [show (8 : Int) - ((row.length % 8 : Nat) : Int) = ((8 - row.length % 8 : Nat) : Int) from by omega,
      show (((row.length % 8 : Nat) : Int) + ((8 - row.length % 8 : Nat) : Int)).toNat / 8 = (row.length % 8 + (8 - row.length % 8)) / 8 from by omega,
      layL_row row 0 (8 - row.length % 8) (by omega) (by omega) (Int.pow_pos (by decide)), ← hk] at hL
    injection hL with e1 e2; injection e2 with e2 e3
    subst e1; subst e2; subst e3
    exact ⟨g', c', rfl, rfl, hxc, by simp [alignF, bitsOf_length]; omega⟩
  · simp only [decide_eq_false_iff_not] at h1
    have e : alignF row = row := by
      have : row.length % 8 = 0 := by omega
      simp [alignF, this, bitsOf]
    rw [e]
    exact ⟨g, c, rfl, rfl, hc, hr⟩
end Go.Proofs.Yteinenklppbjkaa


set_option linter.unusedVariables false

set_option linter.unusedSimpArgs false

open Go.RowKit

namespace Go.Proofs.Yteinenklppbjkaa

set_option maxRecDepth 10000

theorem clone_call {xs : List Int} {c0 c : Nat} (hb : xs.length ≤ 70368744177664) {Kp} :
    CallA Try.prog 29 [.sl 0 0 0 xs.length c0] [.one false 0 (.ints .u8 xs c)]
      (fun r M => ∃ g' c', r = .sl 1 g' 0 xs.length c' ∧ M = [.one false 0 (.ints .u8 xs c), .one true g' (.ints .u8 xs c')] ∧ xs.length ≤ c') Kp := by
  refine CallA.post_view ?_
  refine walk29 (fun _ => []) [] rfl ?_
  refine And.intro rfl ?_
  intro b hb
  refine And.intro (fun h1 => ?_) (fun h1 => ?_)
  · obtain ⟨rfl, rfl⟩ := hb (by simpa using h1)
    exact ⟨_, _, Vw.nil (x := .ints .u8 [] 0) ⟨rfl, rfl⟩, 0, 0, rfl, rfl, Nat.le_refl _⟩
  · repeat (refine And.intro (by first | exact rfl | exact Nat.le_of_ble_eq_true rfl | omega | (dsimp only; omega) | (refine ⟨rfl, rfl, rfl, Nat.le_refl _, Nat.le_refl _⟩)) ?_)
    intro ys hys
    have hys' : ys = xs := by rw [hys]; simp
    subst hys'
    repeat (refine And.intro (by first | exact rfl | omega | (dsimp only; omega)) ?_)
    intro c1 hc1
    refine ⟨_, _, Vw.refl _ _, 1, c1, ?_, rfl, by omega⟩
    show AV.sl 1 1 0 (0 + ys.length) c1 = _
    rw [Nat.zero_add]

/-- Bytes, plainly. -/
def bytesF (row : List Bool) : List Int := if row.length % 8 = 0 then packF row else packF row ++ [num (rest row)]
theorem bytes_call {row : List Bool} {g c : Nat} (hr : row.length ≤ 8388608) (hc : (packF row).length ≤ c) {Kp} :
    CallA Try.prog 12 [.ptr 0 0 0] (wrA row g c)
      (fun r M => ∃ g' c', r = .sl 2 g' 0 (bytesF row).length c' ∧ M = wrA row g c ++ [.one true g' (.ints .u8 (bytesF row) c')] ∧ (bytesF row).length ≤ c') Kp := by
  have hpl := packF_length row
  refine CallA.post_sub ?_
  refine walk12 (fun _ => [0]) [] rfl ?_
  repeat (refine And.intro (by first | exact rfl | omega) ?_)
  refine CallA.lift [.win 1 g 0] (clone_call (xs := packF row) (c0 := c) (c := c) (Kp := fun _ _ => False) (by omega)) rfl rfl ⟨⟨_, _, _, rfl, slot_one rfl, WinC.same rfl (fun h => h)⟩, trivial⟩ ⟨trivial, trivial⟩ ?_ (fun _ _ h => h.elim)
  rintro r M ⟨g', c', rfl, rfl, hc'⟩
  refine ⟨⟨rfl, rfl⟩, ?_⟩
  repeat (refine And.intro (by first | exact rfl | omega) ?_)
  refine And.intro (fun h1 => ?_) (fun h1 => ?_)
  · simp only [decide_eq_true_eq] at h1
    repeat (refine And.intro (by first | exact rfl | exact Nat.le_of_ble_eq_true rfl | exact ⟨rfl, rfl, rfl, Nat.le_refl _, hc'⟩ | omega) ?_)
    intro ys hys
    obtain rfl : ys = [num (rest row) % 256] := hys
    repeat (refine And.intro (by first | exact rfl | omega | (dsimp only; omega)) ?_)
    intro c1 hc1
    have h8 : ¬ row.length % 8 = 0 := by omega
    have hlt := num_lt (rest row)
    rw [rest_length] at hlt
    have h256 : (2 : Int) ^ (row.length % 8) ≤ 2 ^ 7 := by exact_mod_cast Nat.pow_le_pow_right (by omega) (by omega)
    have hm : num (rest row) % 256 = num (rest row) := Int.emod_eq_of_lt (num_nonneg _) (by omega)
    have hb : bytesF row = packF row ++ [num (rest row) % 256] := by simp [bytesF, h8, hm]
    refine ⟨wrA row g c ++ [AO.one true (g' + 1) (.ints .u8 (packF row ++ [num (rest row) % 256]) c1)], And.intro rfl (And.intro rfl (And.intro rfl trivial)), And.intro rfl (And.intro trivial (And.intro trivial trivial)), rfl, g' + 1, c1, ?_, ?_, ?_⟩
    · rw [hb, List.length_append]; rfl
    · rw [hb]
    · rw [hb, List.length_append]; exact hc1
  · simp only [decide_eq_false_iff_not] at h1
    have hb : bytesF row = packF row := by
      have : row.length % 8 = 0 := by omega
      simp [bytesF, this]
    rw [hb]
    exact ⟨wrA row g c ++ [AO.one true g' (.ints .u8 (packF row) c')], And.intro rfl (And.intro rfl (And.intro rfl trivial)), And.intro rfl (And.intro trivial (And.intro trivial trivial)), rfl, g', c', rfl, rfl, hc'⟩

/-! The reader. -/
/-- A reader: its two objects. -/
def rdA (xs : List Int) (at_ : Int) (g c : Nat) : AH := [.one true 0 (.cells [.sl 1 g 0 xs.length c, .int .i64 at_]), .one true g (.ints .u8 xs c)]

theorem new_call {xs : List Int} {c0 c : Nat} (hb : xs.length ≤ 70368744177664) {Kp} :
    CallA Try.prog 14 [.sl 0 0 0 xs.length c0] [.one false 0 (.ints .u8 xs c)]
      (fun r M => ∃ g' c', r = .ptr 2 0 0 ∧ M = [.one false 0 (.ints .u8 xs c), .one true g' (.ints .u8 xs c'), .one true 0 (.cells [.sl 1 g' 0 xs.length c', .int .i64 0])] ∧ xs.length ≤ c') Kp := by
  refine walk14 (fun _ => []) [] rfl ?_
  refine CallA.mono (clone_call (Kp := fun _ _ => False) hb) ?_ (fun _ _ h => h.elim)
  rintro r M ⟨g', c', rfl, rfl, hc'⟩
  exact ⟨g', c', rfl, rfl, hc'⟩

theorem left_call {xs : List Int} {a : Int} {g c : Nat} (hb : xs.length ≤ 70368744177664) (ha : 0 ≤ a ∧ a ≤ 8 * xs.length) {K Kp : AV → AH → Prop}
    (h : K (.int .i64 (8 * xs.length - a)) (rdA xs a g c)) : CallA Try.prog 53 [.ptr 0 0 0] (rdA xs a g c) K Kp := by
  refine walk53 (fun _ => [0]) [] rfl ?_
  repeat (refine And.intro (by first | exact rfl | omega) ?_)
  exact h
theorem at_call {xs : List Int} {a : Int} {g c : Nat} {K Kp : AV → AH → Prop}
    (h : K (.int .i64 a) (rdA xs a g c)) : CallA Try.prog 20 [.ptr 0 0 0] (rdA xs a g c) K Kp := by
  refine walk20 (fun _ => [0]) [] rfl ?_
  repeat (refine And.intro (by first | exact rfl | omega) ?_)
  exact h
end Go.Proofs.Yteinenklppbjkaa


set_option linter.unusedVariables false

set_option linter.unusedSimpArgs false

open Go.RowKit

namespace Go.Proofs.Yteinenklppbjkaa

set_option maxRecDepth 10000

def unpack (xs : List Int) : List Bool := xs.flatMap fun b => bitsOf b 8
theorem unpack_cons (x : Int) (xs : List Int) : unpack (x :: xs) = bitsOf x 8 ++ unpack xs := rfl
theorem unpack_length : ∀ xs : List Int, (unpack xs).length = 8 * xs.length
  | [] => rfl
  | x :: xs => by simp only [unpack_cons, List.length_append, bitsOf_length, unpack_length xs, List.length_cons]; omega
theorem unpack_drop : ∀ (k : Nat) (xs : List Int), (unpack xs).drop (8 * k) = unpack (xs.drop k)
  | 0, xs => rfl
  | k + 1, [] => by simp [unpack]
  | k + 1, x :: xs => by
    rw [unpack_cons, show 8 * (k + 1) = (bitsOf x 8).length + 8 * k from by rw [bitsOf_length]; omega, List.drop_append, show (bitsOf x 8).length + 8 * k - (bitsOf x 8).length = 8 * k from by omega, unpack_drop k xs, List.drop_eq_nil_of_le (by omega)]; simp
theorem num_drop (l : List Bool) (k : Nat) (h : k ≤ l.length) : num (l.drop k) = num l / 2 ^ k ∧ num (l.take k) = num l % 2 ^ k := by
  have h1 := num_append (l.take k) (l.drop k)
  rw [List.take_append_drop] at h1
  have h2 : (l.take k).length = k := by simp; omega
  have h3 := num_lt (l.take k)
  have h4 := num_nonneg (l.take k)
  rw [h2] at h1 h3
  have hp : (0 : Int) < 2 ^ k := Int.pow_pos (by decide)
  constructor
  · rw [h1, Int.add_mul_ediv_left _ _ (by omega), Int.ediv_eq_zero_of_lt h4 h3, Int.zero_add]
  · rw [h1, Int.add_mul_emod_self_left, Int.emod_eq_of_lt h4 h3]

/-- A piece of a byte. -/
theorem piece (xs : List Int) (hxs : ∀ x ∈ xs, 0 ≤ x ∧ x < 256) (a k : Nat) (ha : a / 8 < xs.length) (hk : k ≤ 8 - a % 8) :
    num (((unpack xs).drop a).take k) = (xs.getD (a / 8) 0 / 2 ^ (a % 8)) % 2 ^ k := by
  have hx := hxs _ (List.getElem_mem ha)
  have e1 : (unpack xs).drop a = ((unpack xs).drop (8 * (a / 8))).drop (a % 8) := by rw [List.drop_drop]; congr 1; omega
  rw [e1, unpack_drop, List.drop_eq_getElem_cons ha, unpack_cons, List.drop_append_of_le_length (by rw [bitsOf_length]; omega), List.take_append_of_le_length (by simp [bitsOf_length]; omega)]
  rw [(num_drop _ k (by simp [bitsOf_length]; omega)).2, (num_drop _ (a % 8) (by rw [bitsOf_length]; omega)).1, num_bitsOf 8 _ hx.1 (by have := hx.2; omega)]
  rw [show xs.getD (a / 8) 0 = xs[a / 8] from by simp [List.getD_eq_getElem?_getD, ha]]

theorem and_u32 {a b : Nat} (ha : a < 2 ^ 32) (hb : b < 2 ^ 32) : bitF .and .u32 (a : Int) (b : Int) = ((a &&& b : Nat) : Int) := by
  have h1 : (BitVec.ofInt 32 (a : Int) &&& BitVec.ofInt 32 (b : Int)).toNat = a &&& b := by
    rw [BitVec.toNat_and, BitVec.ofInt_natCast, BitVec.ofInt_natCast, BitVec.toNat_ofNat, BitVec.toNat_ofNat, Nat.mod_eq_of_lt ha, Nat.mod_eq_of_lt hb]
  have h2 : (a &&& b) < 2 ^ 32 := Nat.and_lt_two_pow _ hb
  have h3 : IntKind.u32.wrap ((a &&& b : Nat) : Int) = ((a &&& b : Nat) : Int) := by
    generalize (a &&& b) = z at *
    simp [IntKind.wrap, IntKind.bits, IntKind.signed]; omega
  show IntKind.u32.wrap ((BitVec.ofInt 32 (a : Int) &&& BitVec.ofInt 32 (b : Int)).toNat : Int) = _
  rw [h1, h3]
theorem i64_wrap {z : Nat} (h : z < 2 ^ 63) : IntKind.i64.wrap (z : Int) = (z : Int) := by
  simp [IntKind.wrap, IntKind.bits, IntKind.signed]; omega
theorem and7_i64 {a : Nat} (ha : a < 2 ^ 62) : bitF .and .i64 (a : Int) 7 = ((a % 8 : Nat) : Int) := by
  have h1 : (BitVec.ofInt 64 (a : Int) &&& BitVec.ofInt 64 (7 : Int)).toNat = a % 8 := by
    rw [BitVec.toNat_and, show BitVec.ofInt 64 (7 : Int) = 7#64 from rfl, BitVec.ofInt_natCast, BitVec.toNat_ofNat, Nat.mod_eq_of_lt (by omega)]
    exact Nat.and_two_pow_sub_one_eq_mod a 3
  show IntKind.i64.wrap ((BitVec.ofInt 64 (a : Int) &&& BitVec.ofInt 64 (7 : Int)).toNat : Int) = _
  rw [h1, i64_wrap (by omega)]
theorem andNot7_i64 {a : Nat} (ha : a < 2 ^ 62) : bitF .andNot .i64 (a : Int) 7 = ((a / 8 * 8 : Nat) : Int) := by
  have h1 : (BitVec.ofInt 64 (a : Int) &&& ~~~ BitVec.ofInt 64 (7 : Int)).toNat = a / 8 * 8 := by
    rw [BitVec.toNat_and, show (~~~ BitVec.ofInt 64 (7 : Int)).toNat = 2 ^ 64 - (7 + 1) from rfl, BitVec.ofInt_natCast, BitVec.toNat_ofNat, Nat.mod_eq_of_lt (by omega)]
    apply Nat.eq_of_testBit_eq
    intro i
    rw [Nat.testBit_and, Nat.testBit_two_pow_sub_succ (by decide)]
    rw [show a / 8 * 8 = 2 ^ 3 * (a / 2 ^ 3) from by omega, Nat.testBit_two_pow_mul, Nat.testBit_div_two_pow]
    by_cases h3 : 3 ≤ i
    · have h7 : Nat.testBit 7 i = false := Nat.testBit_lt_two_pow (Nat.lt_of_lt_of_le (by decide : 7 < 2 ^ 3) (Nat.pow_le_pow_right (by omega) h3))
      rw [h7, show i - 3 + 3 = i from by omega]
      by_cases h64 : i < 64
      · simp [h3, h64]
      · have : Nat.testBit a i = false := Nat.testBit_lt_two_pow (Nat.lt_of_lt_of_le ha (Nat.pow_le_pow_right (by omega) (by omega)))
        simp [this]
    · have : i = 0 ∨ i = 1 ∨ i = 2 := by omega
      rcases this with rfl | rfl | rfl <;> simp <;> (intros; decide)
  show IntKind.i64.wrap ((BitVec.ofInt 64 (a : Int) &&& ~~~ BitVec.ofInt 64 (7 : Int)).toNat : Int) = _
  rw [h1, i64_wrap (by omega)]
theorem shr3_i64 (a : Nat) : shrF .i64 (a : Int) 3 = ((a / 8 : Nat) : Int) := by
  simp only [shrF, IntKind.bits]
  rw [Int.fdiv_eq_ediv_of_nonneg _ (by decide)]; rfl
theorem shr_u32 {x : Int} {r : Nat} (hr : r ≤ 32) : shrF .u32 x (r : Int) = x / 2 ^ r := by
  simp only [shrF, IntKind.bits, Int.toNat_natCast]
  rw [Nat.min_eq_left hr, Int.fdiv_eq_ediv_of_nonneg _ (Int.le_of_lt (Int.pow_pos (by decide)))]
theorem shl1_u32 {k : Nat} (hk : k ≤ 31) : shlF .u32 1 (k : Int) = ((2 ^ k : Nat) : Int) := by
  have : (2 : Nat) ^ k < 2 ^ 32 := Nat.pow_lt_pow_right (by omega) (by omega)
  simp only [shlF, IntKind.bits, Int.toNat_natCast, Nat.min_eq_left (show k ≤ 32 by omega), Int.one_mul]
  rw [show (2 : Int) ^ k = ((2 ^ k : Nat) : Int) from by push_cast; rfl]
  generalize (2 : Nat) ^ k = z at *
  simp [IntKind.wrap, IntKind.bits, IntKind.signed]; omega
/-- The mask of a piece. -/
theorem mask_u32 {x k : Nat} (hx : x < 2 ^ 32) (hk : k ≤ 31) : bitF .and .u32 (x : Int) ((((2 ^ k : Nat) : Int) - 1) % 4294967296) = ((x % 2 ^ k : Nat) : Int) := by
  have hp : 0 < 2 ^ k := Nat.pow_pos (by omega)
  have : (2 : Nat) ^ k < 2 ^ 32 := Nat.pow_lt_pow_right (by omega) (by omega)
  have e : (((2 ^ k : Nat) : Int) - 1) % 4294967296 = ((2 ^ k - 1 : Nat) : Int) := by
    generalize (2 : Nat) ^ k = z at *
    omega
  rw [e, and_u32 hx (by omega), Nat.and_two_pow_sub_one_eq_mod]

/-- Get, plainly: the number, the place behind, the answer. -/
def getF (xs : List Int) (a : Nat) (n : Int) : Int × Nat × Int :=
  if ¬ (0 ≤ n ∧ n ≤ 24) then (0, a, 1) else if (8 * xs.length : Int) - a < n then (0, a, 50) else (num (((unpack xs).drop a).take n.toNat), a + n.toNat, 0)

theorem ralign_call {xs : List Int} {a : Nat} {g c : Nat} (hb : xs.length ≤ 70368744177664) (ha : a ≤ 8 * xs.length) {K Kp : AV → AH → Prop}
    (h : K (.int .i64 0) (rdA xs ((a + 7) / 8 * 8 : Nat) g c)) : CallA Try.prog 30 [.ptr 0 0 0] (rdA xs a g c) K Kp := by
  refine walk30 (fun _ => [0]) [] rfl ?_
  repeat (refine And.intro (by first | exact rfl | omega) ?_)
  have e := andNot7_i64 (a := a + 7) (by omega)
  rw [← e] at h
  exact h

theorem get_call {xs : List Int} {a : Nat} {n : Int} {g c : Nat} (hb : xs.length ≤ 70368744177664) (ha : a ≤ 8 * xs.length) (hxs : ∀ x ∈ xs, 0 ≤ x ∧ x < 256) {Kp} :
    CallA Try.prog 37 [.ptr 0 0 0, .int .i64 n] (rdA xs a g c)
      (fun r M => r = .tup [.int .u32 (getF xs a n).1, .int .i64 (getF xs a n).2.2] ∧ M = rdA xs (getF xs a n).2.1 g c) Kp := by
  refine step37 (fun _ => [0, 1]) [] rfl ?_
  repeat ((conv => whnf); first | with_reducible refine O_step ?_ | with_reducible refine S_step ?_ | with_reducible refine D_step ?_ | with_reducible refine RO.exit ?_ | with_reducible refine RO.ret ?_ | ((with_reducible refine And.intro ?sc ?_); case sc => exact side) | ((with_reducible refine br_f ?sc ?_); case sc => exact sideB) | ((with_reducible refine br_t ?sc ?_); case sc => exact sideB))
  refine may_call fun b hb' => ?_
  rw [may_iff (by omega)] at hb'
  have hmay : b = true ↔ 0 ≤ n ∧ n ≤ 24 := by
    rw [hb']; simp only [mayB, decide_eq_true_eq]
    exact ⟨fun h => ⟨h.1, h.2.1⟩, fun h => ⟨h.1, h.2, Int.pow_pos (by decide)⟩⟩
  clear hb'
  repeat ((conv => whnf); first | with_reducible refine O_step ?_ | with_reducible refine S_step ?_ | with_reducible refine D_step ?_ | with_reducible refine RO.exit ?_ | with_reducible refine RO.ret ?_ | ((with_reducible refine And.intro ?sc ?_); case sc => exact side) | ((with_reducible refine br_f ?sc ?_); case sc => exact sideB) | ((with_reducible refine br_t ?sc ?_); case sc => exact sideB))
  refine And.intro (fun h1 => ?_) (fun h1 => ?_)
  · have hb0 : b = false := by simpa using h1
    subst hb0
    have e : getF xs a n = (0, a, 1) := by simp only [getF]; rw [if_pos (fun h => by simpa using hmay.2 h)]
    rw [e]
    repeat ((conv => whnf); first | with_reducible refine O_step ?_ | with_reducible refine S_step ?_ | with_reducible refine D_step ?_ | with_reducible refine RO.exit ?_ | with_reducible refine RO.ret ?_ | ((with_reducible refine And.intro ?sc ?_); case sc => exact side) | ((with_reducible refine br_f ?sc ?_); case sc => exact sideB) | ((with_reducible refine br_t ?sc ?_); case sc => exact sideB))
    exact rfl
  · have hb0 : b = true := by simpa using h1
    subst hb0
    have hn := hmay.1 rfl
    repeat ((conv => whnf); first | with_reducible refine O_step ?_ | with_reducible refine S_step ?_ | with_reducible refine D_step ?_ | with_reducible refine RO.exit ?_ | with_reducible refine RO.ret ?_ | ((with_reducible refine And.intro ?sc ?_); case sc => exact side) | ((with_reducible refine br_f ?sc ?_); case sc => exact sideB) | ((with_reducible refine br_t ?sc ?_); case sc => exact sideB))
    refine left_call hb (by omega) ?_
    repeat ((conv => whnf); first | with_reducible refine O_step ?_ | with_reducible refine S_step ?_ | with_reducible refine D_step ?_ | with_reducible refine RO.exit ?_ | with_reducible refine RO.ret ?_ | ((with_reducible refine And.intro ?sc ?_); case sc => exact side) | ((with_reducible refine br_f ?sc ?_); case sc => exact sideB) | ((with_reducible refine br_t ?sc ?_); case sc => exact sideB))
    refine And.intro (fun h2 => ?_) (fun h2 => ?_)
    · simp only [decide_eq_true_eq] at h2
      have e : getF xs a n = (0, a, 50) := by simp only [getF]; rw [if_neg (fun h => h hn), if_pos h2]
      rw [e]
      repeat ((conv => whnf); first | with_reducible refine O_step ?_ | with_reducible refine S_step ?_ | with_reducible refine D_step ?_ | with_reducible refine RO.exit ?_ | with_reducible refine RO.ret ?_ | ((with_reducible refine And.intro ?sc ?_); case sc => exact side) | ((with_reducible refine br_f ?sc ?_); case sc => exact sideB) | ((with_reducible refine br_t ?sc ?_); case sc => exact sideB))
      exact rfl
    · simp only [decide_eq_false_iff_not] at h2
      obtain ⟨n, rfl⟩ := Int.eq_ofNat_of_zero_le hn.1
      have e : getF xs a n = (num (((unpack xs).drop a).take n), a + n, 0) := by simp only [getF]; rw [if_neg (fun h => h hn), if_neg h2]; rfl
      rw [e]
      have hu := unpack_length xs
      repeat ((conv => whnf); first | with_reducible refine O_step ?_ | with_reducible refine S_step ?_ | with_reducible refine D_step ?_ | with_reducible refine RO.exit ?_ | with_reducible refine RO.ret ?_ | ((with_reducible refine And.intro ?sc ?_); case sc => exact side) | ((with_reducible refine br_f ?sc ?_); case sc => exact sideB) | ((with_reducible refine br_t ?sc ?_); case sc => exact sideB))
      refine WO.go (σ := Nat) (fun got => got ≤ n) (fun got => n - got)
        (fun got => [(0, .ptr 0 0 0), (1, .int .i64 n), (6, .int .u32 (num (((unpack xs).drop a).take got))), (7, .int .i64 got)]) (fun got => rdA xs ((a + got : Nat) : Int) g c) 0 tb_ok mixed (by kernel_rfl)
        (Nat.zero_le _) (And.intro rfl (And.intro rfl (And.intro rfl (And.intro rfl (trivial))))) (And.intro rfl (And.intro rfl (trivial))) (fun _ => rfl) (fun _ => rfl) (fun _ => ⟨rfl, trivial, trivial⟩) ?_
      intro got hg d
      have e7 := and7_i64 (a := a + got) (by omega)
      have e3 := shr3_i64 (a + got)
      repeat ((conv => whnf); first | with_reducible refine O_step ?_ | with_reducible refine S_step ?_ | with_reducible refine D_step ?_ | with_reducible refine RO.exit ?_ | with_reducible refine RO.ret ?_ | ((with_reducible refine And.intro ?sc ?_); case sc => exact side) | ((with_reducible refine br_f ?sc ?_); case sc => exact sideB) | ((with_reducible refine br_t ?sc ?_); case sc => exact sideB))
      refine And.intro (fun hc => ?_) (fun hc => ?_)
      · simp only [decide_eq_true_eq] at hc
        obtain ⟨kN, hkN⟩ : ∃ kN : Nat, kN = min (8 - (a + got) % 8) (n - got) := ⟨_, rfl⟩
        have hk : min ((8 : Int) - ((((a + got) % 8 : Nat)) : Int)) ((n : Int) - (got : Int)) = (kN : Int) := by omega
        have hlt8 : (a + got) / 8 < xs.length := by omega
        repeat ((conv => whnf); first | with_reducible refine O_step ?_ | with_reducible refine S_step ?_ | with_reducible refine D_step ?_ | with_reducible refine RO.exit ?_ | with_reducible refine RO.ret ?_ | ((with_reducible refine And.intro ?sc ?_); case sc => exact side) | ((with_reducible refine br_f ?sc ?_); case sc => exact sideB) | ((with_reducible refine br_t ?sc ?_); case sc => exact sideB))
        rw [e7]
        repeat ((conv => whnf); first | with_reducible refine O_step ?_ | with_reducible refine S_step ?_ | with_reducible refine D_step ?_ | with_reducible refine RO.exit ?_ | with_reducible refine RO.ret ?_ | ((with_reducible refine And.intro ?sc ?_); case sc => exact side) | ((with_reducible refine br_f ?sc ?_); case sc => exact sideB) | ((with_reducible refine br_t ?sc ?_); case sc => exact sideB))
        rw [hk]
        repeat ((conv => whnf); first | with_reducible refine O_step ?_ | with_reducible refine S_step ?_ | with_reducible refine D_step ?_ | with_reducible refine RO.exit ?_ | with_reducible refine RO.ret ?_ | ((with_reducible refine And.intro ?sc ?_); case sc => exact side) | ((with_reducible refine br_f ?sc ?_); case sc => exact sideB) | ((with_reducible refine br_t ?sc ?_); case sc => exact sideB))
        rw [e3]
        repeat ((conv => whnf); first | with_reducible refine O_step ?_ | with_reducible refine S_step ?_ | with_reducible refine D_step ?_ | with_reducible refine RO.exit ?_ | with_reducible refine RO.ret ?_ | ((with_reducible refine And.intro ?sc ?_); case sc => exact side) | ((with_reducible refine br_f ?sc ?_); case sc => exact sideB) | ((with_reducible refine br_t ?sc ?_); case sc => exact sideB))
        refine RO.same (got + kN) (by omega) (show n - (got + kN) < n - got by omega) (And.intro rfl (And.intro rfl (And.intro (congrArg (AV.int .u32) ?_) (And.intro rfl trivial)))) (And.intro ?_ (And.intro rfl trivial))
        · show bitF .or .u32 _ (shlF .u32 (bitF .and .u32 (shrF .u32 (xs.getD ((a + got) / 8) 0 % 4294967296) (((a + got) % 8 : Nat) : Int)) ((shlF .u32 1 ((kN : Nat) : Int) - 1) % 4294967296)) (got : Int)) = _
          rw [shl1_u32 (by omega)]
          obtain ⟨y, hy⟩ : ∃ y : Nat, xs.getD ((a + got) / 8) 0 = (y : Int) ∧ y < 256 := by
            have hx := hxs _ (List.getElem_mem hlt8)
            have : xs.getD ((a + got) / 8) 0 = xs[(a + got) / 8] := by simp [List.getD_eq_getElem?_getD, hlt8]
            exact ⟨xs[(a + got) / 8].toNat, by rw [this]; omega, by omega⟩
          have hp := piece xs hxs (a + got) kN hlt8 (by omega)
          have hym : (xs.getD ((a + got) / 8) 0) % 4294967296 = (y : Int) := by rw [hy.1]; omega
          rw [hym, shr_u32 (by omega)]
          rw [hy.1] at hp
          have hcast : ∀ r : Nat, (y : Int) / 2 ^ r = ((y / 2 ^ r : Nat) : Int) := fun r => by push_cast; rfl
          rw [hcast] at hp ⊢
          have hyr : y / 2 ^ ((a + got) % 8) < 2 ^ 32 := Nat.lt_of_le_of_lt (Nat.div_le_self _ _) (by omega)
          rw [mask_u32 hyr (by omega)]
          have hl : (((unpack xs).drop a).take got).length = got := by simp; omega
          have h1 := num_lt (((unpack xs).drop a).take got)
          rw [hl] at h1
          have h2 : ((y / 2 ^ ((a + got) % 8) % 2 ^ kN : Nat) : Int) < 2 ^ kN := by exact_mod_cast Nat.mod_lt _ (Nat.pow_pos (by omega))
          rw [or_shl (num_nonneg _) h1 (by omega) h2 (by omega)]
          have h3 : ((unpack xs).drop a).take (got + kN) = ((unpack xs).drop a).take got ++ ((unpack xs).drop (a + got)).take kN := by
            rw [List.take_add, List.drop_drop]
          rw [h3, num_append, hl, hp]
          push_cast
          rfl
        · show AO.one true 0 (.cells [.sl 1 g 0 xs.length c, .int .i64 ((a + (got + kN) : Nat) : Int)]) = AO.one true 0 (.cells [.sl 1 g 0 xs.length c, .int .i64 (((a + got : Nat) : Int) + (kN : Int))])
          rw [show ((a + (got + kN) : Nat) : Int) = ((a + got : Nat) : Int) + (kN : Int) by push_cast; omega]
      · simp only [decide_eq_false_iff_not] at hc
        obtain rfl : got = n := by omega
        repeat ((conv => whnf); first | with_reducible refine O_step ?_ | with_reducible refine S_step ?_ | with_reducible refine D_step ?_ | with_reducible refine RO.exit ?_ | with_reducible refine RO.ret ?_ | ((with_reducible refine And.intro ?sc ?_); case sc => exact side) | ((with_reducible refine br_f ?sc ?_); case sc => exact sideB) | ((with_reducible refine br_t ?sc ?_); case sc => exact sideB))
        exact rfl
end Go.Proofs.Yteinenklppbjkaa


set_option linter.unusedVariables false

set_option linter.unusedSimpArgs false

open Go.RowKit

namespace Go.Proofs.Yteinenklppbjkaa

set_option maxRecDepth 10000

end Go.Proofs.Yteinenklppbjkaa


set_option linter.unusedVariables false

set_option linter.unusedSimpArgs false

open Go.RowKit

namespace Go.Proofs.Yteinenklppbjkaa

set_option maxRecDepth 10000

end Go.Proofs.Yteinenklppbjkaa


set_option linter.unusedVariables false

set_option linter.unusedSimpArgs false

open Go.RowKit

namespace Go.Proofs.Yteinenklppbjkaa

set_option maxRecDepth 10000

/-- Get, by definition. -/
def rgetF (row : List Bool) (a : Nat) (n : Int) : Int × Nat × Int :=
  if ¬ (0 ≤ n ∧ n ≤ 24) then (0, a, 1) else if (row.length : Int) - a < n then (0, a, 50) else (num ((row.drop a).take n.toNat), a + n.toNat, 0)
theorem rgetF_getF (xs : List Int) (a : Nat) (n : Int) : rgetF (unpack xs) a n = getF xs a n := by
  simp only [rgetF, getF, unpack_length]
  split
  · rfl
  · push_cast; rfl

theorem bitsOf_zero : ∀ k : Nat, bitsOf 0 k = List.replicate k false
  | 0 => rfl
  | k + 1 => by simp [bitsOf, bitsOf_zero k, List.replicate_succ]

end Go.Proofs.Yteinenklppbjkaa


set_option linter.unusedVariables false

set_option linter.unusedSimpArgs false

open Go.RowKit

namespace Go.Proofs.Yteinenklppbjkaa

set_option maxRecDepth 10000

theorem bytesF_pack (row : List Bool) : bytesF row = packB ((row.length + 7) / 8) row := by
  unfold bytesF
  split
  · rename_i h
    rw [show (row.length + 7) / 8 = row.length / 8 from by omega]; rfl
  · rename_i h
    rw [show (row.length + 7) / 8 = row.length / 8 + 1 from by omega, packB_append]
    have : (rest row).take 8 = rest row := List.take_of_length_le (by rw [rest_length]; omega)
    show packB (row.length / 8) row ++ [num (rest row)] = packB (row.length / 8) row ++ [num ((rest row).take 8)]
    rw [this]

end Go.Proofs.Yteinenklppbjkaa



set_option linter.unusedVariables false

set_option linter.unusedSimpArgs false

open Go.RowKit

namespace Go.Proofs.Yteinenklppbjkaa

set_option maxRecDepth 10000

end Go.Proofs.Yteinenklppbjkaa



set_option linter.unusedVariables false

set_option linter.unusedSimpArgs false

open Go.RowKit

namespace Go.Proofs.Yteinenklppbjkaa

theorem bitsOf_num : ∀ (k : Nat) (l : List Bool), l.length ≤ k → bitsOf (num l) k = l ++ List.replicate (k - l.length) false
  | 0, l, h => by
    have : l = [] := List.eq_nil_of_length_eq_zero (by omega)
    subst this; rfl
  | k + 1, [], _ => by simp [num, bitsOf_zero]
  | k + 1, b :: l, h => by
    have hl : l.length ≤ k := by simpa using h
    have e1 : (num (b :: l)) / 2 = num l := by simp only [num]; split <;> omega
    have e2 : decide (num (b :: l) % 2 = 1) = b := by
      simp only [num]; cases b
      · simp
      · simp
    simp only [bitsOf, e1, e2, bitsOf_num k l hl, List.cons_append, List.length_cons]
    rw [show k + 1 - (l.length + 1) = k - l.length from by omega]
theorem bitsOf_split (v : Int) : ∀ (p q : Nat), bitsOf v (p + q) = bitsOf (v % 2 ^ p) p ++ bitsOf (v / 2 ^ p) q
  | 0, q => by simp [bitsOf]
  | p + 1, q => by
    have h1 : v % 2 ^ (p + 1) % 2 = v % 2 := by
      rw [Int.pow_succ, Int.mul_comm]; exact Int.emod_emod_of_dvd v (Int.dvd_mul_right 2 _)
    have h2 : v % 2 ^ (p + 1) / 2 = v / 2 % 2 ^ p := by
      have hp : (0 : Int) < 2 ^ p := Int.pow_pos (by decide)
      have a1 := Int.emod_add_mul_ediv v (2 ^ (p + 1))
      have a2 := Int.emod_add_mul_ediv (v / 2) (2 ^ p)
      have a3 : v / 2 / 2 ^ p = v / 2 ^ (p + 1) := by rw [Int.ediv_ediv_of_nonneg (by decide), Int.pow_succ, Int.mul_comm]
      rw [a3] at a2
      have a4 : (2 : Int) ^ (p + 1) * (v / 2 ^ (p + 1)) = 2 * (2 ^ p * (v / 2 ^ (p + 1))) := by rw [Int.pow_succ, Int.mul_comm (2 ^ p) 2, Int.mul_assoc]
      rw [a4] at a1
      omega
    have h3 : v / 2 ^ (p + 1) = v / 2 / 2 ^ p := by rw [Int.ediv_ediv_of_nonneg (by decide), Int.pow_succ, Int.mul_comm]
    rw [show p + 1 + q = (p + q) + 1 from by omega]
    simp only [bitsOf, h1, h2, h3, List.cons_append, bitsOf_split (v / 2) p q]

theorem unpack_append (a b : List Int) : unpack (a ++ b) = unpack a ++ unpack b := by simp [unpack]
theorem unpack_packB : ∀ (k : Nat) (l : List Bool), 8 * k ≤ l.length → unpack (packB k l) = l.take (8 * k)
  | 0, l, _ => by simp [packB, unpack]
  | k + 1, l, h => by
    have hl : (l.take 8).length = 8 := by simp; omega
    rw [packB, unpack_cons, bitsOf_num 8 _ (by omega), unpack_packB k _ (by simp; omega), hl]
    simp only [Nat.sub_self, List.replicate_zero, List.append_nil]
    rw [show 8 * (k + 1) = 8 + 8 * k from by omega, List.take_add]
/-- What bytes of a row tell: the row, and zeros. -/
theorem unpack_bytesF (row : List Bool) : ∃ k, k < 8 ∧ unpack (bytesF row) = row ++ List.replicate k false ∧ 8 * (bytesF row).length = row.length + k := by
  have hpl := packF_length row
  have hr := rest_length row
  have h1 : unpack (packF row) = row.take (8 * (row.length / 8)) := unpack_packB _ _ (by omega)
  unfold bytesF
  split
  · rename_i h
    refine ⟨0, by omega, ?_, by omega⟩
    rw [h1, List.take_of_length_le (by omega)]; simp
  · rename_i h
    refine ⟨8 - row.length % 8, by omega, ?_, by simp; omega⟩
    rw [unpack_append, h1, unpack_cons, bitsOf_num 8 _ (by omega), hr]
    show _ ++ (rest row ++ List.replicate (8 - row.length % 8) false ++ []) = _
    rw [List.append_nil, ← List.append_assoc]
    congr 1
    exact List.take_append_drop _ _
theorem bytesF_byte (row : List Bool) : ∀ x ∈ bytesF row, 0 ≤ x ∧ x < 256 := by
  rw [bytesF_pack]; exact packB_byte _ _
/-- A number that was laid in a row is got from its bytes. -/
theorem getF_row (row : List Bool) (a n : Nat) (hn : n ≤ 24) (h : a + n ≤ row.length) : getF (bytesF row) a n = (num ((row.drop a).take n), a + n, 0) := by
  obtain ⟨k, hk, hu, hl⟩ := unpack_bytesF row
  simp only [getF]
  rw [if_neg (by omega), if_neg (by omega), hu, List.drop_append_of_le_length (by omega), List.take_append_of_le_length (by simp; omega)]
  rfl
theorem num_row (p q : List Bool) (v : Int) (n : Nat) (h0 : 0 ≤ v) (h : v < 2 ^ n) : num (((p ++ (bitsOf v n ++ q)).drop p.length).take n) = v := by
  rw [List.drop_left, List.take_append_of_le_length (by rw [bitsOf_length]; exact Nat.le_refl _), List.take_of_length_le (by rw [bitsOf_length]; exact Nat.le_refl _), num_bitsOf n v h0 h]
theorem bytesF_length (row : List Bool) : (bytesF row).length = (row.length + 7) / 8 := by rw [bytesF_pack, packB_length]
theorem putF_ok {row : List Bool} {v : Int} {n : Nat} (hn : n ≤ 24) (hv : v < 2 ^ n) (hr : row.length + n ≤ 8388608) : putF row v n = (row ++ bitsOf v n, 0) := by
  have hm : mayB v n = true := by simp only [mayB, decide_eq_true_eq]; exact ⟨by omega, by omega, by simpa using hv⟩
  simp only [putF, hm]
  rw [if_neg (by simp), if_neg (by omega)]; rfl
end Go.Proofs.Yteinenklppbjkaa



set_option linter.unusedVariables false

set_option linter.unusedSimpArgs false

open Go.RowKit

namespace Go.Proofs.Yteinenklppbjkaa

set_option maxRecDepth 10000

/-- A writer's two objects. -/
def wo (j g c : Nat) (row : List Bool) : AO := .one true 0 (.cells [.sl j g 0 (packF row).length c, .int .u32 (num (rest row)), .int .i64 ((row.length % 8 : Nat) : Int)])
def wb (g c : Nat) (row : List Bool) : AO := .one true g (.ints .u8 (packF row) c)
/-- A reader's two objects. -/
def ro (j g c : Nat) (xs : List Int) (a : Nat) : AO := .one true 0 (.cells [.sl j g 0 xs.length c, .int .i64 (a : Int)])
def rb (g c : Nat) (xs : List Int) : AO := .one true g (.ints .u8 xs c)

section

variable {M : AH} {K Kp : AV → AH → Prop}

theorem apart2 {i j : Nat} (h : Nat.beq i j = false) {l : List AV} (hl : AV.w0l [.own i, .own j] l = true) : (apartT [.own i, .own j] && AV.w0l [.own i, .own j] l) = true := by
  simp [apartT, TE.isOwn, TE.i, h, hl]

theorem put_at {i j g c : Nat} {row row' : List Bool} {v n e : Int} (hi : M[i]? = some (wo j g c row)) (hj : M[j]? = some (wb g c row)) (hij : Nat.beq i j = false) (hv : 0 ≤ v) (hr : row.length ≤ 8388608) (hc : (packF row).length ≤ c) (hp : putF row v n = (row', e))
    (h : ∀ g' c', (packF row').length ≤ c' → row'.length ≤ 8388608 → K (.int .i64 e) ((M.set i (wo j g' c' row')).set j (wb g' c' row'))) :
    CallA Try.prog 21 [.ptr i 0 0, .int .u32 v, .int .i64 n] M K Kp := by
  refine CallA.lift [.own i, .own j] (put_call (row := row) (g := g) (c := c) (n := n) (Kp := fun _ _ => False) hv hr hc) rfl (apart2 hij rfl) ⟨⟨hi, rfl⟩, ⟨hj, rfl⟩, trivial⟩ ⟨rfl, trivial, trivial⟩ ?_ (fun _ _ h => h.elim)
  rw [hp]
  rintro r M' ⟨g', c', rfl, rfl, hc', hl'⟩
  refine ⟨⟨rfl, rfl, rfl⟩, ?_⟩
  have := h g' c' hc' hl'
  rw [← List.append_nil ((M.set i _).set j _)] at this
  exact this

theorem align_at {i j g c : Nat} {row : List Bool} (hi : M[i]? = some (wo j g c row)) (hj : M[j]? = some (wb g c row)) (hij : Nat.beq i j = false) (hr : row.length ≤ 8388608) (hc : (packF row).length ≤ c)
    (h : ∀ g' c', (packF (alignF row)).length ≤ c' → (alignF row).length ≤ 8388608 → K (.int .i64 0) ((M.set i (wo j g' c' (alignF row))).set j (wb g' c' (alignF row)))) :
    CallA Try.prog 22 [.ptr i 0 0] M K Kp := by
  refine CallA.lift [.own i, .own j] (align_call (row := row) (g := g) (c := c) (Kp := fun _ _ => False) hr hc) rfl (apart2 hij rfl) ⟨⟨hi, rfl⟩, ⟨hj, rfl⟩, trivial⟩ ⟨rfl, trivial, trivial⟩ ?_ (fun _ _ h => h.elim)
  rintro r M' ⟨g', c', rfl, rfl, hc', hl'⟩
  refine ⟨⟨rfl, rfl, rfl⟩, ?_⟩
  have := h g' c' hc' hl'
  rw [← List.append_nil ((M.set i _).set j _)] at this
  exact this

theorem set_self {M : AH} {i : Nat} {o : AO} (h : M[i]? = some o) : M.set i o = M := by
  obtain ⟨h1, h2⟩ := List.getElem?_eq_some_iff.1 h
  rw [← h2, List.set_getElem_self]

theorem len_at {i j g c : Nat} {row : List Bool} (hi : M[i]? = some (wo j g c row)) (hj : M[j]? = some (wb g c row)) (hij : Nat.beq i j = false) (hr : row.length ≤ 8388608)
    (h : K (.int .i64 (row.length : Int)) M) : CallA Try.prog 40 [.ptr i 0 0] M K Kp := by
  have hpl := packF_length row
  refine CallA.lift [.own i, .own j] (len_call (g := g) (c := c) (xs := packF row) (a := num (rest row)) (n := ((row.length % 8 : Nat) : Int)) (K := fun r M => r = .int .i64 (8 * ((packF row).length : Int) + ((row.length % 8 : Nat) : Int)) ∧ M = wrA row g c) (Kp := fun _ _ => False) (by omega) (by omega) ⟨rfl, rfl⟩) rfl (apart2 hij rfl) ⟨⟨hi, rfl⟩, ⟨hj, rfl⟩, trivial⟩ ⟨rfl, trivial, trivial⟩ ?_ (fun _ _ h => h.elim)
  rintro r M' ⟨rfl, rfl⟩
  refine ⟨⟨rfl, rfl, rfl⟩, ?_⟩
  rw [show (8 * ((packF row).length : Int) + ((row.length % 8 : Nat) : Int)) = row.length from by rw [hpl]; omega]
  have e : M = (M.set i (wo j g c row)).set j (wb g c row) ++ [] := by rw [set_self hi, set_self hj, List.append_nil]
  rw [e] at h
  exact h

theorem bytes_at {i j g c : Nat} {row : List Bool} (hi : M[i]? = some (wo j g c row)) (hj : M[j]? = some (wb g c row)) (hij : Nat.beq i j = false) (hr : row.length ≤ 8388608) (hc : (packF row).length ≤ c)
    (h : ∀ g' c', (bytesF row).length ≤ c' → K (.sl M.length g' 0 (bytesF row).length c') (M ++ [.one true g' (.ints .u8 (bytesF row) c')])) :
    CallA Try.prog 12 [.ptr i 0 0] M K Kp := by
  refine CallA.lift [.own i, .own j] (bytes_call (row := row) (g := g) (c := c) (Kp := fun _ _ => False) hr hc) rfl (apart2 hij rfl) ⟨⟨hi, rfl⟩, ⟨hj, rfl⟩, trivial⟩ ⟨rfl, trivial, trivial⟩ ?_ (fun _ _ h => h.elim)
  rintro r M' ⟨g', c', rfl, rfl, hc'⟩
  refine ⟨⟨rfl, rfl, rfl⟩, ?_⟩
  have := h g' c' hc'
  have e : M = (M.set i (wo j g c row)).set j (wb g c row) := by rw [set_self hi, set_self hj]
  rw [e] at this
  simp only [List.length_set] at this
  exact this

theorem get_at {i j g c : Nat} {xs : List Int} {a a' : Nat} {n v e : Int} (hi : M[i]? = some (ro j g c xs a)) (hj : M[j]? = some (rb g c xs)) (hij : Nat.beq i j = false) (hb : xs.length ≤ 70368744177664) (ha : a ≤ 8 * xs.length) (hxs : ∀ x ∈ xs, 0 ≤ x ∧ x < 256) (hp : getF xs a n = (v, a', e))
    (h : K (.tup [.int .u32 v, .int .i64 e]) (M.set i (ro j g c xs a'))) : CallA Try.prog 37 [.ptr i 0 0, .int .i64 n] M K Kp := by
  refine CallA.lift [.own i, .own j] (get_call (a := a) (n := n) (g := g) (c := c) (Kp := fun _ _ => False) hb ha hxs) rfl (apart2 hij rfl) ⟨⟨hi, rfl⟩, ⟨hj, rfl⟩, trivial⟩ ⟨rfl, trivial, trivial⟩ ?_ (fun _ _ h => h.elim)
  rw [hp]
  rintro r M' ⟨rfl, rfl⟩
  refine ⟨⟨rfl, rfl, rfl⟩, ?_⟩
  have e : M.set i (ro j g c xs a') = (M.set i (ro j g c xs a')).set j (rb g c xs) ++ [] := by
    rw [List.append_nil]; exact (set_self (show (M.set i _)[j]? = some (rb g c xs) by rw [List.getElem?_set_ne (Nat.ne_of_beq_eq_false hij)]; exact hj)).symm
  rw [e] at h
  exact h

theorem ralign_at {i j g c : Nat} {xs : List Int} {a : Nat} (hi : M[i]? = some (ro j g c xs a)) (hj : M[j]? = some (rb g c xs)) (hij : Nat.beq i j = false) (hb : xs.length ≤ 70368744177664) (ha : a ≤ 8 * xs.length)
    (h : K (.int .i64 0) (M.set i (ro j g c xs ((a + 7) / 8 * 8)))) : CallA Try.prog 30 [.ptr i 0 0] M K Kp := by
  refine CallA.lift [.own i, .own j] (ralign_call (a := a) (g := g) (c := c) (K := fun r M => r = .int .i64 0 ∧ M = rdA xs ((a + 7) / 8 * 8 : Nat) g c) (Kp := fun _ _ => False) hb ha ⟨rfl, rfl⟩) rfl (apart2 hij rfl) ⟨⟨hi, rfl⟩, ⟨hj, rfl⟩, trivial⟩ ⟨rfl, trivial, trivial⟩ ?_ (fun _ _ h => h.elim)
  rintro r M' ⟨rfl, rfl⟩
  refine ⟨⟨rfl, rfl, rfl⟩, ?_⟩
  have e : M.set i (ro j g c xs ((a + 7) / 8 * 8)) = (M.set i (ro j g c xs ((a + 7) / 8 * 8))).set j (rb g c xs) ++ [] := by
    rw [List.append_nil]; exact (set_self (show (M.set i _)[j]? = some (rb g c xs) by rw [List.getElem?_set_ne (Nat.ne_of_beq_eq_false hij)]; exact hj)).symm
  rw [e] at h
  exact h

theorem keep2 {i j : Nat} {o p : AO} (hi : M[i]? = some o) (hj : M[j]? = some p) : M = (M.set i o).set j p ++ [] := by
  rw [set_self hi, set_self hj, List.append_nil]

theorem left_at {i j g c : Nat} {xs : List Int} {a : Nat} (hi : M[i]? = some (ro j g c xs a)) (hj : M[j]? = some (rb g c xs)) (hij : Nat.beq i j = false) (hb : xs.length ≤ 70368744177664) (ha : a ≤ 8 * xs.length)
    (h : K (.int .i64 (8 * (xs.length : Int) - (a : Int))) M) : CallA Try.prog 53 [.ptr i 0 0] M K Kp := by
  refine CallA.lift [.own i, .own j] (left_call (a := a) (g := g) (c := c) (K := fun r M => r = .int .i64 (8 * (xs.length : Int) - (a : Int)) ∧ M = rdA xs (a : Int) g c) (Kp := fun _ _ => False) hb (by omega) ⟨rfl, rfl⟩) rfl (apart2 hij rfl) ⟨⟨hi, rfl⟩, ⟨hj, rfl⟩, trivial⟩ ⟨rfl, trivial, trivial⟩ ?_ (fun _ _ h => h.elim)
  rintro r M' ⟨rfl, rfl⟩
  refine ⟨⟨rfl, rfl, rfl⟩, ?_⟩
  rw [keep2 hi hj] at h
  exact h

theorem at_at {i j g c : Nat} {xs : List Int} {a : Nat} (hi : M[i]? = some (ro j g c xs a)) (hj : M[j]? = some (rb g c xs)) (hij : Nat.beq i j = false)
    (h : K (.int .i64 (a : Int)) M) : CallA Try.prog 20 [.ptr i 0 0] M K Kp := by
  refine CallA.lift [.own i, .own j] (at_call (xs := xs) (a := a) (g := g) (c := c) (K := fun r M => r = .int .i64 (a : Int) ∧ M = rdA xs (a : Int) g c) (Kp := fun _ _ => False) ⟨rfl, rfl⟩) rfl (apart2 hij rfl) ⟨⟨hi, rfl⟩, ⟨hj, rfl⟩, trivial⟩ ⟨rfl, trivial, trivial⟩ ?_ (fun _ _ h => h.elim)
  rintro r M' ⟨rfl, rfl⟩
  refine ⟨⟨rfl, rfl, rfl⟩, ?_⟩
  rw [keep2 hi hj] at h
  exact h

/-- A window on bytes. -/
theorem winI {t : List TE} {m : Nat} {k : IntKind} {xs : List Int} {c co : Nat} (h : c ≤ co) : WinC t m 0 (.ints k xs c) (.ints k xs co) := WinC.ints (by omega) (by simp)
theorem winB {t : List TE} {m : Nat} {xs : List Bool} {c co : Nat} (h : c ≤ co) : WinC t m 0 (.bools xs c) (.bools xs co) := WinC.bools (by omega) (by simp)

theorem new_at {i g n c co : Nat} {own : Bool} {xs : List Int} (hi : M[i]? = some (.one own g (.ints .u8 xs co))) (hn : n = xs.length) (hb : xs.length ≤ 70368744177664)
    (h : ∀ g' c', xs.length ≤ c' → K (.ptr (M.length + 1) 0 0) (M ++ [rb g' c' xs, ro M.length g' c' xs 0])) :
    CallA Try.prog 14 [.sl i g 0 n c] M K Kp := by
  subst hn
  refine CallA.lift [.win i g 0] (new_call (xs := xs) (c0 := c) (c := co) (Kp := fun _ _ => False) hb) rfl rfl ⟨⟨_, _, _, rfl, slot_one hi, winI (Nat.le_refl _)⟩, trivial⟩ ⟨trivial, trivial⟩ ?_ (fun _ _ h => h.elim)
  rintro r M' ⟨g', c', rfl, rfl, hc'⟩
  exact ⟨⟨rfl, rfl⟩, h g' c' hc'⟩

/-- A new writer: its nil slice as an empty one. -/
theorem Vw.writer {i : Nat} {l : List AV} (hm : M[i]? = some (.one true 0 (.cells [.ns, .int .u32 0, .int .i64 0]))) : Vw M (M.set i (wo M.length 0 0 []) ++ [wb 0 0 []]) l l :=
  Vw.ghost (i := i) (k := 0) (x := .ints .u8 [] 0) hm rfl ⟨rfl, rfl⟩
end

end Go.Proofs.Yteinenklppbjkaa



set_option linter.unusedVariables false

set_option linter.unusedSimpArgs false

open Go.RowKit

namespace Go.Proofs.Yteinenklppbjkaa

set_option maxRecDepth 10000

section

variable {M : AH} {K Kp : AV → AH → Prop}

end

theorem getF_le (xs : List Int) (a : Nat) (n : Int) (h : a ≤ 8 * xs.length) : (getF xs a n).2.1 ≤ 8 * xs.length := by
  unfold getF
  split
  · exact h
  · split
    · exact h
    · show a + n.toNat ≤ _; omega

/-- Acts: a number, how many bits, whether it is an alignment. -/
def actG (f : Nat → Int × Int × Bool) (j : Nat) : List AV := [.int .u32 (f j).1, .int .i64 (f j).2.1, .bo (f j).2.2]
def ActsOK (f : Nat → Int × Int × Bool) (n : Nat) : Prop := ∀ j, j < n → 0 ≤ (f j).1 ∧ (f j).1 < 4294967296 ∧ -9223372036854775808 ≤ (f j).2.1 ∧ (f j).2.1 ≤ 9223372036854775807
theorem actG_ex {get : Nat → List AV} (h : ∀ j, fitL [.int .u32, .int .i64, .bool] (get j)) (n : Nat) : ∃ f, get = actG f ∧ ActsOK f n := by
  have one : ∀ j, ∃ x : Int × Int × Bool, get j = [.int .u32 x.1, .int .i64 x.2.1, .bo x.2.2] ∧ 0 ≤ x.1 ∧ x.1 < 4294967296 ∧ -9223372036854775808 ≤ x.2.1 ∧ x.2.1 ≤ 9223372036854775807 := by
    intro j
    have hj := h j
    match hg : get j, hj with
    | [a, b, c], hj =>
      obtain ⟨h1, h2, h3, _⟩ := hj
      cases a with
      | int k v => cases b with
        | int k2 n => cases c with
          | bo b =>
            obtain ⟨rfl, h1⟩ := h1
            obtain ⟨rfl, h2⟩ := h2
            refine ⟨(v, n, b), rfl, h1.1, ?_, h2.1, h2.2⟩
            have : v ≤ 4294967295 := h1.2
            show v < 4294967296
            omega
          | _ => exact h3.elim
        | _ => exact h2.elim
      | _ => exact h1.elim
  refine ⟨fun j => Classical.choose (one j), funext fun j => (Classical.choose_spec (one j)).1, fun j _ => (Classical.choose_spec (one j)).2⟩
end Go.Proofs.Yteinenklppbjkaa
