/- Layer 23: bytes of numbers; must, number. -/
import Derived.Test.YtedlpkibdjccdaaGb

set_option linter.unusedVariables false

set_option linter.unusedSimpArgs false

open Go.RowKit

namespace Go.Proofs.Ytedlpkibdjccdaa

set_option maxRecDepth 10000

/-- The last k bytes of a number, the highest first. -/
def beW (v : Int) : Nat → List Int
  | 0 => []
  | k + 1 => (v / 2 ^ (8 * k)) % 256 :: beW v k
theorem beW_length (v : Int) : ∀ k, (beW v k).length = k
  | 0 => rfl
  | k + 1 => by simp [beW, beW_length v k]
theorem beW_bound (v : Int) : ∀ k, ∀ x ∈ beW v k, 0 ≤ x ∧ x < 256
  | 0 => by simp [beW]
  | k + 1 => by
    intro x hx
    rcases List.mem_cons.1 hx with rfl | hx
    · omega
    · exact beW_bound v k x hx
/-- A bool, in whatever form. -/
def isB (v : AV) (b : Bool) : Prop := v = .bo b ∨ (v = .ff ∧ b = false) ∨ (v = .tt ∧ b = true)
theorem isB_nb {v : AV} {b : Bool} (h : isB v b) (k : Nat) : v.nb k = true := by
  rcases h with rfl | ⟨rfl, _⟩ | ⟨rfl, _⟩ <;> rfl
/-- The number that bytes are. -/
def valB : List Int → Int → Int
  | [], v => v
  | b :: l, v => valB l (v * 256 + b)
theorem shr64 {v : Int} {k : Nat} (hk : k ≤ 64) : shrF .u64 v (k : Int) = v / 2 ^ k := by
  unfold shrF
  rw [show min (k : Int).toNat (IntKind.bits .u64) = k by show min k 64 = k; omega]
  exact Int.fdiv_eq_ediv_of_nonneg _ (Int.le_of_lt (Int.pow_pos (by decide)))

theorem valB_snoc (x : Int) : ∀ (l : List Int) (v : Int), valB (l ++ [x]) v = valB l v * 256 + x
  | [], v => rfl
  | b :: l, v => valB_snoc x l (v * 256 + b)
theorem valB_bound : ∀ (l : List Int) (v : Int) (m : Int), (∀ x ∈ l, 0 ≤ x ∧ x < 256) → 0 ≤ v → v < m → 0 ≤ valB l v ∧ valB l v < m * 256 ^ l.length
  | [], v, m, _, h0, h1 => by simp [valB]; exact ⟨h0, h1⟩
  | b :: l, v, m, hl, h0, h1 => by
    have hb := hl b (by simp)
    have := valB_bound l (v * 256 + b) (m * 256) (fun x hx => hl x (by simp [hx])) (by omega) (by omega)
    refine ⟨this.1, ?_⟩
    rw [List.length_cons, Int.pow_succ, Int.mul_comm (256 ^ l.length), ← Int.mul_assoc]
    exact this.2
theorem or_add64 {x y : Int} (i : Nat) {a : Int} (ha : 0 ≤ a) (hx : x = 2 ^ i * a) (hy : 0 ≤ y ∧ y < 2 ^ i) (hs : x + y < 18446744073709551616) : bitF .or .u64 x y = x + y := by
  obtain ⟨n, rfl⟩ := Int.eq_ofNat_of_zero_le ha
  obtain ⟨m, rfl⟩ := Int.eq_ofNat_of_zero_le hy.1
  have hp : ((2 : Int) ^ i * n) = ((2 ^ i * n : Nat) : Int) := by push_cast; rfl
  have hm : m < 2 ^ i := by have := hy.2; exact_mod_cast this
  rw [hx, hp] at hs ⊢
  generalize hq : 2 ^ i * n = q at *
  have hb : q + m < 18446744073709551616 := by omega
  show IntKind.wrap .u64 (((BitVec.ofInt 64 (q : Int)) ||| (BitVec.ofInt 64 (m : Int))).toNat : Int) = _
  have e1 : (BitVec.ofInt 64 (q : Int)).toNat = q := by rw [BitVec.toNat_ofInt]; omega
  have e2 : (BitVec.ofInt 64 (m : Int)).toNat = m := by rw [BitVec.toNat_ofInt]; omega
  rw [BitVec.toNat_or, e1, e2, ← hq, ← Nat.two_pow_add_eq_or_of_lt hm, hq]
  simp [IntKind.wrap, IntKind.bits, IntKind.signed]
  omega
/-- One byte more. -/
theorem next8 {v x : Int} (hv : 0 ≤ v ∧ v < 72057594037927936) (hx : 0 ≤ x ∧ x < 256) : bitF .or .u64 (shlF .u64 v 8) (x % 18446744073709551616) = v * 256 + x := by
  have e1 : shlF .u64 v 8 = 2 ^ 8 * v := by
    unfold shlF
    show IntKind.wrap .u64 (v * 2 ^ 8) = _
    simp [IntKind.wrap, IntKind.bits, IntKind.signed]
    omega
  rw [show x % 18446744073709551616 = x by omega, e1, or_add64 8 hv.1 rfl (by omega) (by omega)]
  omega
end Go.Proofs.Ytedlpkibdjccdaa
