/- The contracts of package bits and of its reference, in whatever heap. -/
import Derived.Test.YthbmddaemdcamaaLw0
import Derived.Test.YthbmddaemdcamaaBp
set_option linter.unusedVariables false
set_option linter.unusedSimpArgs false
open Go.RowKit
namespace Go.Proofs.Ythbmddaemdcamaa
set_option maxRecDepth 10000

/-- A writer's two objects. -/
def wo (j g c : Nat) (row : List Bool) : AO := .one true 0 (.cells [.sl j g 0 (packF row).length c, .int .u32 (num (rest row)), .int .i64 ((row.length % 8 : Nat) : Int)])
def wb (g c : Nat) (row : List Bool) : AO := .one true g (.ints .u8 (packF row) c)
/-- A reader's two objects. -/
def ro (j g c : Nat) (xs : List Int) (a : Nat) : AO := .one true 0 (.cells [.sl j g 0 xs.length c, .int .i64 (a : Int)])
def rb (g c : Nat) (xs : List Int) : AO := .one true g (.ints .u8 xs c)

section
variable {M : AH} {K Kp : AV → AH → Prop}

theorem apart2 {i j : Nat} (h : Nat.beq i j = false) {l : List AV} (hl : AV.w0l [.own i, .own j] l = true) : (apartT [.own i, .own j] && AV.w0l [.own i, .own j] l) = true := by
  simp [apartT, TE.isOwn, TE.i, h, hl]

theorem put_at {i j g c : Nat} {row row' : List Bool} {v n e : Int} (hi : M[i]? = some (wo j g c row)) (hj : M[j]? = some (wb g c row)) (hij : Nat.beq i j = false) (hv : 0 ≤ v) (hr : row.length ≤ 8388608) (hc : (packF row).length ≤ c) (hp : putF row v n = (row', e))
    (h : ∀ g' c', (packF row').length ≤ c' → row'.length ≤ 8388608 → K (.int .i64 e) ((M.set i (wo j g' c' row')).set j (wb g' c' row'))) :
    CallA Try.prog 10 [.ptr i 0 0, .int .u32 v, .int .i64 n] M K Kp := by
  refine CallA.lift [.own i, .own j] (put_call (row := row) (g := g) (c := c) (n := n) (Kp := fun _ _ => False) hv hr hc) rfl (apart2 hij rfl) ⟨⟨hi, rfl⟩, ⟨hj, rfl⟩, trivial⟩ ⟨rfl, trivial, trivial⟩ ?_ (fun _ _ h => h.elim)
  rw [hp]
  rintro r M' ⟨g', c', rfl, rfl, hc', hl'⟩
  refine ⟨⟨rfl, rfl, rfl⟩, ?_⟩
  have := h g' c' hc' hl'
  rw [← List.append_nil ((M.set i _).set j _)] at this
  exact this

theorem align_at {i j g c : Nat} {row : List Bool} (hi : M[i]? = some (wo j g c row)) (hj : M[j]? = some (wb g c row)) (hij : Nat.beq i j = false) (hr : row.length ≤ 8388608) (hc : (packF row).length ≤ c)
    (h : ∀ g' c', (packF (alignF row)).length ≤ c' → (alignF row).length ≤ 8388608 → K (.int .i64 0) ((M.set i (wo j g' c' (alignF row))).set j (wb g' c' (alignF row)))) :
    CallA Try.prog 18 [.ptr i 0 0] M K Kp := by
  refine CallA.lift [.own i, .own j] (align_call (row := row) (g := g) (c := c) (Kp := fun _ _ => False) hr hc) rfl (apart2 hij rfl) ⟨⟨hi, rfl⟩, ⟨hj, rfl⟩, trivial⟩ ⟨rfl, trivial, trivial⟩ ?_ (fun _ _ h => h.elim)
  rintro r M' ⟨g', c', rfl, rfl, hc', hl'⟩
  refine ⟨⟨rfl, rfl, rfl⟩, ?_⟩
  have := h g' c' hc' hl'
  rw [← List.append_nil ((M.set i _).set j _)] at this
  exact this

theorem set_self {M : AH} {i : Nat} {o : AO} (h : M[i]? = some o) : M.set i o = M := by
  obtain ⟨h1, h2⟩ := List.getElem?_eq_some_iff.1 h
  rw [← h2, List.set_getElem_self]

theorem len_at {i j g c : Nat} {row : List Bool} (hi : M[i]? = some (wo j g c row)) (hj : M[j]? = some (wb g c row)) (hij : Nat.beq i j = false) (hr : row.length ≤ 8388608)
    (h : K (.int .i64 (row.length : Int)) M) : CallA Try.prog 13 [.ptr i 0 0] M K Kp := by
  have hpl := packF_length row
  refine CallA.lift [.own i, .own j] (len_call (g := g) (c := c) (xs := packF row) (a := num (rest row)) (n := ((row.length % 8 : Nat) : Int)) (K := fun r M => r = .int .i64 (8 * ((packF row).length : Int) + ((row.length % 8 : Nat) : Int)) ∧ M = wrA row g c) (Kp := fun _ _ => False) (by omega) (by omega) ⟨rfl, rfl⟩) rfl (apart2 hij rfl) ⟨⟨hi, rfl⟩, ⟨hj, rfl⟩, trivial⟩ ⟨rfl, trivial, trivial⟩ ?_ (fun _ _ h => h.elim)
  rintro r M' ⟨rfl, rfl⟩
  refine ⟨⟨rfl, rfl, rfl⟩, ?_⟩
  rw [show (8 * ((packF row).length : Int) + ((row.length % 8 : Nat) : Int)) = row.length from by rw [hpl]; omega]
  have e : M = (M.set i (wo j g c row)).set j (wb g c row) ++ [] := by rw [set_self hi, set_self hj, List.append_nil]
  rw [e] at h
  exact h

theorem bytes_at {i j g c : Nat} {row : List Bool} (hi : M[i]? = some (wo j g c row)) (hj : M[j]? = some (wb g c row)) (hij : Nat.beq i j = false) (hr : row.length ≤ 8388608) (hc : (packF row).length ≤ c)
    (h : ∀ g' c', (bytesF row).length ≤ c' → K (.sl M.length g' 0 (bytesF row).length c') (M ++ [.one true g' (.ints .u8 (bytesF row) c')])) :
    CallA Try.prog 12 [.ptr i 0 0] M K Kp := by
  refine CallA.lift [.own i, .own j] (bytes_call (row := row) (g := g) (c := c) (Kp := fun _ _ => False) hr hc) rfl (apart2 hij rfl) ⟨⟨hi, rfl⟩, ⟨hj, rfl⟩, trivial⟩ ⟨rfl, trivial, trivial⟩ ?_ (fun _ _ h => h.elim)
  rintro r M' ⟨g', c', rfl, rfl, hc'⟩
  refine ⟨⟨rfl, rfl, rfl⟩, ?_⟩
  have := h g' c' hc'
  have e : M = (M.set i (wo j g c row)).set j (wb g c row) := by rw [set_self hi, set_self hj]
  rw [e] at this
  simp only [List.length_set] at this
  exact this

theorem get_at {i j g c : Nat} {xs : List Int} {a a' : Nat} {n v e : Int} (hi : M[i]? = some (ro j g c xs a)) (hj : M[j]? = some (rb g c xs)) (hij : Nat.beq i j = false) (hb : xs.length ≤ 70368744177664) (ha : a ≤ 8 * xs.length) (hxs : ∀ x ∈ xs, 0 ≤ x ∧ x < 256) (hp : getF xs a n = (v, a', e))
    (h : K (.tup [.int .u32 v, .int .i64 e]) (M.set i (ro j g c xs a'))) : CallA Try.prog 15 [.ptr i 0 0, .int .i64 n] M K Kp := by
  refine CallA.lift [.own i, .own j] (get_call (a := a) (n := n) (g := g) (c := c) (Kp := fun _ _ => False) hb ha hxs) rfl (apart2 hij rfl) ⟨⟨hi, rfl⟩, ⟨hj, rfl⟩, trivial⟩ ⟨rfl, trivial, trivial⟩ ?_ (fun _ _ h => h.elim)
  rw [hp]
  rintro r M' ⟨rfl, rfl⟩
  refine ⟨⟨rfl, rfl, rfl⟩, ?_⟩
  have e : M.set i (ro j g c xs a') = (M.set i (ro j g c xs a')).set j (rb g c xs) ++ [] := by
    rw [List.append_nil]; exact (set_self (show (M.set i _)[j]? = some (rb g c xs) by rw [List.getElem?_set_ne (Nat.ne_of_beq_eq_false hij)]; exact hj)).symm
  rw [e] at h
  exact h

theorem ralign_at {i j g c : Nat} {xs : List Int} {a : Nat} (hi : M[i]? = some (ro j g c xs a)) (hj : M[j]? = some (rb g c xs)) (hij : Nat.beq i j = false) (hb : xs.length ≤ 70368744177664) (ha : a ≤ 8 * xs.length)
    (h : K (.int .i64 0) (M.set i (ro j g c xs ((a + 7) / 8 * 8)))) : CallA Try.prog 23 [.ptr i 0 0] M K Kp := by
  refine CallA.lift [.own i, .own j] (ralign_call (a := a) (g := g) (c := c) (K := fun r M => r = .int .i64 0 ∧ M = rdA xs ((a + 7) / 8 * 8 : Nat) g c) (Kp := fun _ _ => False) hb ha ⟨rfl, rfl⟩) rfl (apart2 hij rfl) ⟨⟨hi, rfl⟩, ⟨hj, rfl⟩, trivial⟩ ⟨rfl, trivial, trivial⟩ ?_ (fun _ _ h => h.elim)
  rintro r M' ⟨rfl, rfl⟩
  refine ⟨⟨rfl, rfl, rfl⟩, ?_⟩
  have e : M.set i (ro j g c xs ((a + 7) / 8 * 8)) = (M.set i (ro j g c xs ((a + 7) / 8 * 8))).set j (rb g c xs) ++ [] := by
    rw [List.append_nil]; exact (set_self (show (M.set i _)[j]? = some (rb g c xs) by rw [List.getElem?_set_ne (Nat.ne_of_beq_eq_false hij)]; exact hj)).symm
  rw [e] at h
  exact h

theorem keep2 {i j : Nat} {o p : AO} (hi : M[i]? = some o) (hj : M[j]? = some p) : M = (M.set i o).set j p ++ [] := by
  rw [set_self hi, set_self hj, List.append_nil]

theorem left_at {i j g c : Nat} {xs : List Int} {a : Nat} (hi : M[i]? = some (ro j g c xs a)) (hj : M[j]? = some (rb g c xs)) (hij : Nat.beq i j = false) (hb : xs.length ≤ 70368744177664) (ha : a ≤ 8 * xs.length)
    (h : K (.int .i64 (8 * (xs.length : Int) - (a : Int))) M) : CallA Try.prog 21 [.ptr i 0 0] M K Kp := by
  refine CallA.lift [.own i, .own j] (left_call (a := a) (g := g) (c := c) (K := fun r M => r = .int .i64 (8 * (xs.length : Int) - (a : Int)) ∧ M = rdA xs (a : Int) g c) (Kp := fun _ _ => False) hb (by omega) ⟨rfl, rfl⟩) rfl (apart2 hij rfl) ⟨⟨hi, rfl⟩, ⟨hj, rfl⟩, trivial⟩ ⟨rfl, trivial, trivial⟩ ?_ (fun _ _ h => h.elim)
  rintro r M' ⟨rfl, rfl⟩
  refine ⟨⟨rfl, rfl, rfl⟩, ?_⟩
  rw [keep2 hi hj] at h
  exact h

theorem at_at {i j g c : Nat} {xs : List Int} {a : Nat} (hi : M[i]? = some (ro j g c xs a)) (hj : M[j]? = some (rb g c xs)) (hij : Nat.beq i j = false)
    (h : K (.int .i64 (a : Int)) M) : CallA Try.prog 25 [.ptr i 0 0] M K Kp := by
  refine CallA.lift [.own i, .own j] (at_call (xs := xs) (a := a) (g := g) (c := c) (K := fun r M => r = .int .i64 (a : Int) ∧ M = rdA xs (a : Int) g c) (Kp := fun _ _ => False) ⟨rfl, rfl⟩) rfl (apart2 hij rfl) ⟨⟨hi, rfl⟩, ⟨hj, rfl⟩, trivial⟩ ⟨rfl, trivial, trivial⟩ ?_ (fun _ _ h => h.elim)
  rintro r M' ⟨rfl, rfl⟩
  refine ⟨⟨rfl, rfl, rfl⟩, ?_⟩
  rw [keep2 hi hj] at h
  exact h

/-- A window on bytes. -/
theorem winI {t : List TE} {m : Nat} {k : IntKind} {xs : List Int} {c co : Nat} (h : c ≤ co) : WinC t m 0 (.ints k xs c) (.ints k xs co) := WinC.ints (by omega) (by simp)
theorem winB {t : List TE} {m : Nat} {xs : List Bool} {c co : Nat} (h : c ≤ co) : WinC t m 0 (.bools xs c) (.bools xs co) := WinC.bools (by omega) (by simp)

theorem new_at {i g n c co : Nat} {own : Bool} {xs : List Int} (hi : M[i]? = some (.one own g (.ints .u8 xs co))) (hn : n = xs.length) (hb : xs.length ≤ 70368744177664)
    (h : ∀ g' c', xs.length ≤ c' → K (.ptr (M.length + 1) 0 0) (M ++ [rb g' c' xs, ro M.length g' c' xs 0])) :
    CallA Try.prog 14 [.sl i g 0 n c] M K Kp := by
  subst hn
  refine CallA.lift [.win i g 0] (new_call (xs := xs) (c0 := c) (c := co) (Kp := fun _ _ => False) hb) rfl rfl ⟨⟨_, _, _, rfl, slot_one hi, winI (Nat.le_refl _)⟩, trivial⟩ ⟨trivial, trivial⟩ ?_ (fun _ _ h => h.elim)
  rintro r M' ⟨g', c', rfl, rfl, hc'⟩
  exact ⟨⟨rfl, rfl⟩, h g' c' hc'⟩

theorem same_at {i g n c co j g2 n2 c2 co2 : Nat} {o1 o2 : Bool} {xs ys : List Int} (hi : M[i]? = some (.one o1 g (.ints .u8 xs co))) (hj : M[j]? = some (.one o2 g2 (.ints .u8 ys co2))) (hn : n = xs.length) (hn2 : n2 = ys.length) (hx : xs.length ≤ 1000000000) (hy : ys.length ≤ 1000000000)
    (h : K (.bo (decide (xs = ys))) M) : CallA Try.prog 11 [.sl i g 0 n c, .sl j g2 0 n2 c2] M K Kp := by
  subst hn; subst hn2
  refine CallA.lift [.win i g 0, .win j g2 0] (same_call (xs := xs) (ys := ys) (c0 := c) (c1 := c2) (c := co) (d := co2) (K := fun r M => r = .bo (decide (xs = ys)) ∧ M = [.one false 0 (.ints .u8 xs co), .one false 0 (.ints .u8 ys co2)]) (Kp := fun _ _ => False) hx hy ⟨rfl, rfl⟩) rfl rfl
    ⟨⟨_, _, _, rfl, slot_one hi, winI (Nat.le_refl _)⟩, ⟨_, _, _, rfl, slot_one hj, winI (Nat.le_refl _)⟩, trivial⟩ ⟨trivial, trivial, trivial⟩ ?_ (fun _ _ h => h.elim)
  rintro r M' ⟨rfl, rfl⟩
  refine ⟨⟨rfl, rfl, rfl⟩, ?_⟩
  rw [← List.append_nil M] at h
  exact h

theorem lays_at (h : K (.bo true) M) : CallA Try.prog 16 [] M K Kp := by
  refine CallA.lift [] (lays_call (Kp := fun _ _ => False)) rfl rfl trivial trivial ?_ (fun _ _ h => h.elim)
  rintro r M' ⟨rfl, rfl⟩
  refine ⟨rfl, ?_⟩
  rw [← List.append_nil M] at h
  exact h

/-- A new writer: its nil slice as an empty one. -/
theorem Vw.writer {i : Nat} {l : List AV} (hm : M[i]? = some (.one true 0 (.cells [.ns, .int .u32 0, .int .i64 0]))) : Vw M (M.set i (wo M.length 0 0 []) ++ [wb 0 0 []]) l l :=
  Vw.ghost (i := i) (k := 0) (x := .ints .u8 [] 0) hm rfl ⟨rfl, rfl⟩
end
end Go.Proofs.Ythbmddaemdcamaa
