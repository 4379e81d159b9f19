/- The contracts of the reference of bits, in whatever heap. -/
import Derived.Test.YthbmddaemdcamaaBw
import Derived.Test.YthbmddaemdcamaaAb22
set_option linter.unusedVariables false
set_option linter.unusedSimpArgs false
open Go.RowKit
namespace Go.Proofs.Ythbmddaemdcamaa
set_option maxRecDepth 10000

section
variable {M : AH} {K Kp : AV → AH → Prop}

theorem rput_at {i g n0 c0 c : Nat} {own : Bool} {row : List Bool} {v n : Int} (hi : M[i]? = some (.one own g (.bools row c))) (hn : n0 = row.length) (hv : 0 ≤ v ∧ v < 4294967296) (hl : row.length ≤ 8388608)
    (h1 : ∀ e, putF row v n = (row, e) → e ≠ 0 → K (.tup [.sl i g 0 n0 c0, .int .i64 e]) M)
    (h2 : ∀ row' g' c', putF row v n = (row', 0) → row'.length ≤ c' → row'.length ≤ 8388608 → K (.tup [.sl M.length g' 0 row'.length c', .int .i64 0]) (M ++ [.one true g' (.bools row' c')])) :
    CallA Try.prog 19 [.sl i g 0 n0 c0, .int .u32 v, .int .i64 n] M K Kp := by
  subst hn
  refine CallA.lift [.win i g 0] (rput_call (row := row) (c0 := c0) (c := c) (n := n) (Kp := fun _ _ => False) hv hl) rfl rfl ⟨⟨_, _, _, rfl, slot_one hi, winB (Nat.le_refl _)⟩, trivial⟩ ⟨trivial, trivial⟩ ?_ (fun _ _ h => h.elim)
  rintro r M' (⟨e, he, hne, rfl, rfl⟩ | ⟨g', c', he, rfl, rfl, hc⟩)
  · refine ⟨⟨rfl, rfl⟩, ?_⟩
    have := h1 e he hne
    rw [← List.append_nil M] at this
    exact this
  · refine ⟨⟨rfl, rfl⟩, ?_⟩
    refine h2 _ g' c' he hc ?_
    simp only [putF] at he
    split at he
    · simp at he
    · split at he
      · simp at he
      · rename_i hh
        have hm : mayB v n = true := by rename_i h0; simpa using h0
        simp only [mayB, decide_eq_true_eq] at hm
        rw [List.length_append, bitsOf_length]; omega

theorem ralignrow_at {i g n0 c0 c : Nat} {own : Bool} {row : List Bool} (hi : M[i]? = some (.one own g (.bools row c))) (hn : n0 = row.length) (hl : row.length ≤ 1000000000)
    (h : ∀ g' c', (alignF row).length ≤ c' → K (.sl M.length g' 0 (alignF row).length c') (M ++ [.one true g' (.bools (alignF row) c')])) :
    CallA Try.prog 17 [.sl i g 0 n0 c0] M K Kp := by
  subst hn
  refine CallA.lift [.win i g 0] (ralign_row_call (row := row) (c0 := c0) (c := c) (Kp := fun _ _ => False) hl) rfl rfl ⟨⟨_, _, _, rfl, slot_one hi, winB (Nat.le_refl _)⟩, trivial⟩ ⟨trivial, trivial⟩ ?_ (fun _ _ h => h.elim)
  rintro r M' ⟨g', c', rfl, rfl, hc⟩
  exact ⟨⟨rfl, rfl⟩, h g' c' hc⟩

theorem rbytes_at {i g n0 c0 c : Nat} {own : Bool} {row : List Bool} (hi : M[i]? = some (.one own g (.bools row c))) (hn : n0 = row.length) (hl : row.length ≤ 1000000000) (hc : row.length ≤ c0 ∧ c0 ≤ c)
    (h : ∀ g' c', (bytesF row).length ≤ c' → K (.sl M.length g' 0 (bytesF row).length c') (M ++ [.one true g' (.ints .u8 (bytesF row) c')])) :
    CallA Try.prog 20 [.sl i g 0 n0 c0] M K Kp := by
  subst hn
  refine CallA.lift [.win i g 0] (rbytes_call (row := row) (c0 := c0) (c := c) (Kp := fun _ _ => False) hl hc) rfl rfl ⟨⟨_, _, _, rfl, slot_one hi, winB (Nat.le_refl _)⟩, trivial⟩ ⟨trivial, trivial⟩ ?_ (fun _ _ h => h.elim)
  rintro r M' ⟨g', c', rfl, rfl, hc⟩
  exact ⟨⟨rfl, rfl⟩, h g' c' hc⟩

theorem rget_at {i g n0 c0 c a : Nat} {own : Bool} {row : List Bool} {n v e : Int} {a' : Nat} (hi : M[i]? = some (.one own g (.bools row c))) (hn : n0 = row.length) (hl : row.length ≤ 1000000000) (ha : a ≤ row.length) (hc : row.length ≤ c0 ∧ c0 ≤ c) (hp : rgetF row a n = (v, a', e))
    (h : K (.tup [.int .u32 v, .int .i64 (a' : Int), .int .i64 e]) M) :
    CallA Try.prog 24 [.sl i g 0 n0 c0, .int .i64 a, .int .i64 n] M K Kp := by
  subst hn
  refine CallA.lift [.win i g 0] (rget_call (row := row) (a := a) (n := n) (c0 := c0) (c := c) (K := fun r M => r = .tup [.int .u32 v, .int .i64 (a' : Int), .int .i64 e] ∧ M = [.one false 0 (.bools row c)]) (Kp := fun _ _ => False) hl ha hc (by rw [hp]; exact ⟨rfl, rfl⟩)) rfl rfl ⟨⟨_, _, _, rfl, slot_one hi, winB (Nat.le_refl _)⟩, trivial⟩ ⟨trivial, trivial⟩ ?_ (fun _ _ h => h.elim)
  rintro r M' ⟨rfl, rfl⟩
  refine ⟨⟨rfl, rfl⟩, ?_⟩
  rw [← List.append_nil M] at h
  exact h

theorem rof_at {i g n0 c0 c : Nat} {own : Bool} {xs : List Int} (hi : M[i]? = some (.one own g (.ints .u8 xs c))) (hn : n0 = xs.length) (hl : xs.length ≤ 100000000) (hxs : ∀ x ∈ xs, 0 ≤ x ∧ x < 256)
    (h : ∀ g' c', (unpack xs).length ≤ c' → K (.sl M.length g' 0 (unpack xs).length c') (M ++ [.one true g' (.bools (unpack xs) c')])) :
    CallA Try.prog 22 [.sl i g 0 n0 c0] M K Kp := by
  subst hn
  refine CallA.lift [.win i g 0] (rof_call (xs := xs) (c0 := c0) (c := c) (Kp := fun _ _ => False) hl hxs) rfl rfl ⟨⟨_, _, _, rfl, slot_one hi, winI (Nat.le_refl _)⟩, trivial⟩ ⟨trivial, trivial⟩ ?_ (fun _ _ h => h.elim)
  rintro r M' ⟨g', c', rfl, rfl, hc⟩
  exact ⟨⟨rfl, rfl⟩, h g' c' hc⟩
end

theorem getF_le (xs : List Int) (a : Nat) (n : Int) (h : a ≤ 8 * xs.length) : (getF xs a n).2.1 ≤ 8 * xs.length := by
  unfold getF
  split
  · exact h
  · split
    · exact h
    · show a + n.toNat ≤ _; omega

/-- Acts: a number, how many bits, whether it is an alignment. -/
def actG (f : Nat → Int × Int × Bool) (j : Nat) : List AV := [.int .u32 (f j).1, .int .i64 (f j).2.1, .bo (f j).2.2]
def ActsOK (f : Nat → Int × Int × Bool) (n : Nat) : Prop := ∀ j, j < n → 0 ≤ (f j).1 ∧ (f j).1 < 4294967296 ∧ -9223372036854775808 ≤ (f j).2.1 ∧ (f j).2.1 ≤ 9223372036854775807
theorem actG_ex {get : Nat → List AV} (h : ∀ j, fitL [.int .u32, .int .i64, .bool] (get j)) (n : Nat) : ∃ f, get = actG f ∧ ActsOK f n := by
  have one : ∀ j, ∃ x : Int × Int × Bool, get j = [.int .u32 x.1, .int .i64 x.2.1, .bo x.2.2] ∧ 0 ≤ x.1 ∧ x.1 < 4294967296 ∧ -9223372036854775808 ≤ x.2.1 ∧ x.2.1 ≤ 9223372036854775807 := by
    intro j
    have hj := h j
    match hg : get j, hj with
    | [a, b, c], hj =>
      obtain ⟨h1, h2, h3, _⟩ := hj
      cases a with
      | int k v => cases b with
        | int k2 n => cases c with
          | bo b =>
            obtain ⟨rfl, h1⟩ := h1
            obtain ⟨rfl, h2⟩ := h2
            refine ⟨(v, n, b), rfl, h1.1, ?_, h2.1, h2.2⟩
            have : v ≤ 4294967295 := h1.2
            show v < 4294967296
            omega
          | _ => exact h3.elim
        | _ => exact h2.elim
      | _ => exact h1.elim
  refine ⟨fun j => Classical.choose (one j), funext fun j => (Classical.choose_spec (one j)).1, fun j _ => (Classical.choose_spec (one j)).2⟩
end Go.Proofs.Ythbmddaemdcamaa
