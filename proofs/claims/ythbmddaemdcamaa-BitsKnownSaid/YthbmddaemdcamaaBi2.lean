/- Bytes of a writer; the reader of bits, walked. -/
import Derived.Test.YthbmddaemdcamaaBi1
set_option linter.unusedVariables false
set_option linter.unusedSimpArgs false
open Go.RowKit
namespace Go.Proofs.Ythbmddaemdcamaa
set_option maxRecDepth 10000

theorem clone_call {xs : List Int} {c0 c : Nat} (hb : xs.length ≤ 70368744177664) {Kp} :
    CallA Try.prog 30 [.sl 0 0 0 xs.length c0] [.one false 0 (.ints .u8 xs c)]
      (fun r M => ∃ g' c', r = .sl 1 g' 0 xs.length c' ∧ M = [.one false 0 (.ints .u8 xs c), .one true g' (.ints .u8 xs c')] ∧ xs.length ≤ c') Kp := by
  refine CallA.post_view ?_
  refine walk30 (fun _ => []) [] rfl ?_
  refine And.intro rfl ?_
  intro b hb
  refine And.intro (fun h1 => ?_) (fun h1 => ?_)
  · obtain ⟨rfl, rfl⟩ := hb (by simpa using h1)
    exact ⟨_, _, Vw.nil (x := .ints .u8 [] 0) ⟨rfl, rfl⟩, 0, 0, rfl, rfl, Nat.le_refl _⟩
  · repeat (refine And.intro (by first | exact rfl | exact Nat.le_of_ble_eq_true rfl | omega | (dsimp only; omega) | (refine ⟨rfl, rfl, rfl, Nat.le_refl _, Nat.le_refl _⟩)) ?_)
    intro ys hys
    have hys' : ys = xs := by rw [hys]; simp
    subst hys'
    repeat (refine And.intro (by first | exact rfl | omega | (dsimp only; omega)) ?_)
    intro c1 hc1
    refine ⟨_, _, Vw.refl _ _, 1, c1, ?_, rfl, by omega⟩
    show AV.sl 1 1 0 (0 + ys.length) c1 = _
    rw [Nat.zero_add]

/-- Bytes, plainly. -/
def bytesF (row : List Bool) : List Int := if row.length % 8 = 0 then packF row else packF row ++ [num (rest row)]
theorem bytes_call {row : List Bool} {g c : Nat} (hr : row.length ≤ 8388608) (hc : (packF row).length ≤ c) {Kp} :
    CallA Try.prog 12 [.ptr 0 0 0] (wrA row g c)
      (fun r M => ∃ g' c', r = .sl 2 g' 0 (bytesF row).length c' ∧ M = wrA row g c ++ [.one true g' (.ints .u8 (bytesF row) c')] ∧ (bytesF row).length ≤ c') Kp := by
  have hpl := packF_length row
  refine CallA.post_sub ?_
  refine walk12 (fun _ => [0]) [] rfl ?_
  repeat (refine And.intro (by first | exact rfl | omega) ?_)
  refine CallA.lift [.win 1 g 0] (clone_call (xs := packF row) (c0 := c) (c := c) (Kp := fun _ _ => False) (by omega)) rfl rfl ⟨⟨_, _, _, rfl, slot_one rfl, WinC.same rfl (fun h => h)⟩, trivial⟩ ⟨trivial, trivial⟩ ?_ (fun _ _ h => h.elim)
  rintro r M ⟨g', c', rfl, rfl, hc'⟩
  refine ⟨⟨rfl, rfl⟩, ?_⟩
  repeat (refine And.intro (by first | exact rfl | omega) ?_)
  refine And.intro (fun h1 => ?_) (fun h1 => ?_)
  · simp only [decide_eq_true_eq] at h1
    repeat (refine And.intro (by first | exact rfl | exact Nat.le_of_ble_eq_true rfl | exact ⟨rfl, rfl, rfl, Nat.le_refl _, hc'⟩ | omega) ?_)
    intro ys hys
    obtain rfl : ys = [num (rest row) % 256] := hys
    repeat (refine And.intro (by first | exact rfl | omega | (dsimp only; omega)) ?_)
    intro c1 hc1
    have h8 : ¬ row.length % 8 = 0 := by omega
    have hlt := num_lt (rest row)
    rw [rest_length] at hlt
    have h256 : (2 : Int) ^ (row.length % 8) ≤ 2 ^ 7 := by exact_mod_cast Nat.pow_le_pow_right (by omega) (by omega)
    have hm : num (rest row) % 256 = num (rest row) := Int.emod_eq_of_lt (num_nonneg _) (by omega)
    have hb : bytesF row = packF row ++ [num (rest row) % 256] := by simp [bytesF, h8, hm]
    refine ⟨wrA row g c ++ [AO.one true (g' + 1) (.ints .u8 (packF row ++ [num (rest row) % 256]) c1)], And.intro rfl (And.intro rfl (And.intro rfl trivial)), And.intro rfl (And.intro trivial (And.intro trivial trivial)), rfl, g' + 1, c1, ?_, ?_, ?_⟩
    · rw [hb, List.length_append]; rfl
    · rw [hb]
    · rw [hb, List.length_append]; exact hc1
  · simp only [decide_eq_false_iff_not] at h1
    have hb : bytesF row = packF row := by
      have : row.length % 8 = 0 := by omega
      simp [bytesF, this]
    rw [hb]
    exact ⟨wrA row g c ++ [AO.one true g' (.ints .u8 (packF row) c')], And.intro rfl (And.intro rfl (And.intro rfl trivial)), And.intro rfl (And.intro trivial (And.intro trivial trivial)), rfl, g', c', rfl, rfl, hc'⟩

/-! The reader. -/
/-- A reader: its two objects. -/
def rdA (xs : List Int) (at_ : Int) (g c : Nat) : AH := [.one true 0 (.cells [.sl 1 g 0 xs.length c, .int .i64 at_]), .one true g (.ints .u8 xs c)]

theorem new_call {xs : List Int} {c0 c : Nat} (hb : xs.length ≤ 70368744177664) {Kp} :
    CallA Try.prog 14 [.sl 0 0 0 xs.length c0] [.one false 0 (.ints .u8 xs c)]
      (fun r M => ∃ g' c', r = .ptr 2 0 0 ∧ M = [.one false 0 (.ints .u8 xs c), .one true g' (.ints .u8 xs c'), .one true 0 (.cells [.sl 1 g' 0 xs.length c', .int .i64 0])] ∧ xs.length ≤ c') Kp := by
  refine walk14 (fun _ => []) [] rfl ?_
  refine CallA.mono (clone_call (Kp := fun _ _ => False) hb) ?_ (fun _ _ h => h.elim)
  rintro r M ⟨g', c', rfl, rfl, hc'⟩
  exact ⟨g', c', rfl, rfl, hc'⟩

theorem left_call {xs : List Int} {a : Int} {g c : Nat} (hb : xs.length ≤ 70368744177664) (ha : 0 ≤ a ∧ a ≤ 8 * xs.length) {K Kp : AV → AH → Prop}
    (h : K (.int .i64 (8 * xs.length - a)) (rdA xs a g c)) : CallA Try.prog 21 [.ptr 0 0 0] (rdA xs a g c) K Kp := by
  refine walk21 (fun _ => [0]) [] rfl ?_
  repeat (refine And.intro (by first | exact rfl | omega) ?_)
  exact h
theorem at_call {xs : List Int} {a : Int} {g c : Nat} {K Kp : AV → AH → Prop}
    (h : K (.int .i64 a) (rdA xs a g c)) : CallA Try.prog 25 [.ptr 0 0 0] (rdA xs a g c) K Kp := by
  refine walk25 (fun _ => [0]) [] rfl ?_
  repeat (refine And.intro (by first | exact rfl | omega) ?_)
  exact h
end Go.Proofs.Ythbmddaemdcamaa
