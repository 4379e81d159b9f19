/- Layer 6: what each tells, plainly; Codes, New. -/
import Derived.Test.YteinenklppbjkaaH8

set_option linter.unusedVariables false

set_option linter.unusedSimpArgs false

open Go.RowKit

namespace Go.Proofs.Yteinenklppbjkaa

set_option maxRecDepth 10000

/-- The room that the first i lengths take, and how many codes they are. -/
def sumK (ls : List Int) : Nat → Nat
  | 0 => 0
  | i + 1 => sumK ls i + if 0 < ls.getD i 0 then 2 ^ (15 - (ls.getD i 0).toNat) else 0
def cntK (ls : List Int) : Nat → Nat
  | 0 => 0
  | i + 1 => cntK ls i + if 0 < ls.getD i 0 then 1 else 0
theorem sumK_le (ls : List Int) : ∀ i, sumK ls i ≤ i * 32768
  | 0 => Nat.le_refl _
  | i + 1 => by
    have := sumK_le ls i
    have h2 : 2 ^ (15 - (ls.getD i 0).toNat) ≤ 32768 := Nat.le_trans (Nat.pow_le_pow_right (by omega) (Nat.sub_le 15 _)) (by decide)
    have h3 : sumK ls (i + 1) = sumK ls i + if 0 < ls.getD i 0 then 2 ^ (15 - (ls.getD i 0).toNat) else 0 := rfl
    rw [h3, Nat.succ_mul]
    split
    · exact Nat.add_le_add this h2
    · exact Nat.le_trans this (Nat.le_add_right _ _)
theorem cntK_le (ls : List Int) : ∀ i, cntK ls i ≤ i
  | 0 => Nat.le_refl _
  | i + 1 => by have := cntK_le ls i; simp only [cntK]; split <;> omega
def badL (ls : List Int) : Bool := decide (320 < ls.length) || ls.any badU
/-- Do lengths (of 15 bits and less) make a code? -/
def makesK (ls : List Int) : Bool := decide (sumK ls ls.length = 32768) || decide (cntK ls ls.length = 0) || (decide (cntK ls ls.length = 1) && decide (sumK ls ls.length = 16384))
def eachE (ls : List Int) : Int := if badL ls = true then 1 else if makesK ls = true then 0 else 60
def stepS (ls : List Int) (n : Nat) (x : Nat × List (Nat × Nat × Nat)) (s : Nat) : Nat × List (Nat × Nat × Nat) := if ls.getD s 0 = (n : Int) then (x.1 + 1, x.2 ++ [(s, x.1, n)]) else x
def rowS (ls : List Int) (n i : Nat) (x : Nat × List (Nat × Nat × Nat)) : Nat × List (Nat × Nat × Nat) := (List.range i).foldl (stepS ls n) x
/-- The next code, and what was told, behind the lengths of up to n bits. -/
def tellS (ls : List Int) : Nat → Nat × List (Nat × Nat × Nat)
  | 0 => (0, [])
  | n + 1 => rowS ls (n + 1) ls.length (2 * (tellS ls n).1, (tellS ls n).2)
theorem rowS_succ (ls : List Int) (n i : Nat) (x : Nat × List (Nat × Nat × Nat)) : rowS ls n (i + 1) x = stepS ls n (rowS ls n i x) i := by
  unfold rowS; rw [List.range_succ, List.foldl_append]; rfl
theorem rowS_le (ls : List Int) (n : Nat) (x : Nat × List (Nat × Nat × Nat)) : ∀ i, (rowS ls n i x).1 ≤ x.1 + i
  | 0 => Nat.le_refl _
  | i + 1 => by
    have := rowS_le ls n x i
    rw [rowS_succ]; unfold stepS; split
    · show (rowS ls n i x).1 + 1 ≤ _; omega
    · omega
theorem tellS_le (ls : List Int) : ∀ n, (tellS ls n).1 + ls.length ≤ 2 ^ n * ls.length
  | 0 => by simp [tellS]
  | n + 1 => by
    have ih := tellS_le ls n
    have := rowS_le ls (n + 1) (2 * (tellS ls n).1, (tellS ls n).2) ls.length
    simp only [tellS]
    have e : 2 ^ (n + 1) * ls.length = 2 * (2 ^ n * ls.length) := by rw [Nat.pow_succ, Nat.mul_comm (2 ^ n) 2, Nat.mul_assoc]
    have h3 : (2 * (tellS ls n).1, (tellS ls n).2).1 = 2 * (tellS ls n).1 := rfl
    omega
/-- Codes' row behind what was told. -/
def layC (ts : List (Nat × Nat × Nat)) (o : List Int) : List Int := ts.foldl (fun o t => o.set t.1 ((turnG t.2.2 t.2.1 0 % 65536 : Nat) : Int)) o
theorem layC_len (ts : List (Nat × Nat × Nat)) (o : List Int) : (layC ts o).length = o.length := by
  unfold layC
  induction ts generalizing o with
  | nil => rfl
  | cons t ts ih => rw [List.foldl_cons, ih]; simp
theorem layC_snoc (ts : List (Nat × Nat × Nat)) (t : Nat × Nat × Nat) (o : List Int) : layC (ts ++ [t]) o = (layC ts o).set t.1 ((turnG t.2.2 t.2.1 0 % 65536 : Nat) : Int) := by
  unfold layC; rw [List.foldl_append]; rfl
/-- A map of numbers. -/
def mzM (ez : List ((Int × Int) × Int)) : List ((Int × Int) × AV) := ez.map fun p => (p.1, .int .i64 p.2)
def updZ (k : Int × Int) (z : Int) : List ((Int × Int) × Int) → List ((Int × Int) × Int)
  | [] => [(k, z)]
  | (k', z') :: l => if k = k' then (k', z) :: l else (k', z') :: updZ k z l
def findZ (k : Int × Int) : List ((Int × Int) × Int) → Option Int
  | [] => none
  | (k', z) :: l => if k = k' then some z else findZ k l
theorem updM_mz (k : Int × Int) (z : Int) : ∀ ez, updM k (.int .i64 z) (mzM ez) = mzM (updZ k z ez)
  | [] => rfl
  | (k', z') :: l => by
    show (if k = k' then _ else _) = mzM (if k = k' then _ else _)
    split
    · rfl
    · show _ :: updM k (.int .i64 z) (mzM l) = _ :: mzM (updZ k z l)
      rw [updM_mz k z l]
theorem findM_mz (k : Int × Int) : ∀ ez, findM k (mzM ez) = (findZ k ez).map (AV.int .i64)
  | [] => rfl
  | (k', z') :: l => by
    show (if k = k' then _ else _) = Option.map _ (if k = k' then _ else _)
    split
    · rfl
    · exact findM_mz k l
theorem findZ_upd (k k' : Int × Int) (z : Int) : ∀ ez, findZ k (updZ k' z ez) = if k = k' then some z else findZ k ez
  | [] => by simp only [updZ, findZ]
  | (a, b) :: l => by
    simp only [updZ]
    by_cases h1 : k' = a
    · subst h1
      rw [if_pos rfl]
      simp only [findZ]
      by_cases h2 : k = k'
      · rw [if_pos h2, if_pos h2]
      · rw [if_neg h2, if_neg h2, if_neg h2]
    · rw [if_neg h1]
      simp only [findZ, findZ_upd k k' z l]
      by_cases h2 : k = a
      · subst h2
        rw [if_pos rfl, if_pos rfl, if_neg (fun e => h1 e.symm)]
      · rw [if_neg h2, if_neg h2]
/-- From n - 1 down to 0. -/
def downM (t : Nat × Nat × Nat) : Nat → List ((Int × Int) × Int) → List ((Int × Int) × Int)
  | 0, es => es
  | k + 1, es => downM t k (updZ (((t.2.1 / 2 ^ (t.2.2 - k) : Nat) : Int), (k : Int)) (-1) es)
def oneM (es : List ((Int × Int) × Int)) (t : Nat × Nat × Nat) : List ((Int × Int) × Int) := downM t t.2.2 (updZ ((t.2.1 : Int), (t.2.2 : Int)) (t.1 : Int) es)
/-- A table's entries behind what was told. -/
def layM (ts : List (Nat × Nat × Nat)) (es : List ((Int × Int) × Int)) : List ((Int × Int) × Int) := ts.foldl oneM es
theorem layM_snoc (ts : List (Nat × Nat × Nat)) (t : Nat × Nat × Nat) (es : List ((Int × Int) × Int)) : layM (ts ++ [t]) es = oneM (layM ts es) t := by
  unfold layM; rw [List.foldl_append]; rfl

def codH (ls : List Int) (c co : Nat) (o : List Int) : AH := [.one false 0 (.ints .u8 ls c), .one true 0 (.ints .u16 o co), .one true 0 (.cells [.sl 1 0 0 co co])]
/-- New: the table's map, the table, the variable that holds it. -/
def newH (ls : List Int) (c : Nat) (es : List ((Int × Int) × Int)) : AH := [.one false 0 (.ints .u8 ls c), .one true 0 (.map (.pair .i64 .i64) (mzM es)), .one true 0 (.cells [.mp 1 0]), .one true 0 (.cells [.ptr 2 0 0])]
theorem newH_nb {ls : List Int} {c : Nat} {es : List ((Int × Int) × Int)} : nbH (newH ls c es).length (newH ls c es) := by
  refine ⟨trivial, fun p hp => ?_, rfl, rfl, trivial⟩
  obtain ⟨q, _, rfl⟩ := List.mem_map.1 hp
  rfl
section

variable {ls : List Int} {c c0 : Nat} {K Kp : AV → AH → Prop}

theorem codes1_call {o : List Int} {s code n co : Nat} (hs : s < o.length) (ho : o.length = co) (hb : co ≤ 1000000) (hc : code < 2 ^ 30) (hn : n ≤ 30) (hK : K (.tup []) (codH ls c co (o.set s ((turnG n code 0 % 65536 : Nat) : Int)))) :
    CallA Try.prog 45 [.int .i64 s, .int .i64 code, .int .i64 n, .ptr 2 0 0] (codH ls c co o) K Kp := by
  refine step45 (fun _ => [2]) [] rfl ?_
  repeat ((conv => whnf); first | with_reducible refine O_step ?_ | with_reducible refine S_step ?_ | with_reducible refine D_step ?_ | with_reducible refine RO.exit ?_ | with_reducible refine RO.ret ?_ | ((with_reducible refine And.intro ?sc ?_); case sc => exact side) | ((with_reducible refine br_f ?sc ?_); case sc => exact sideB) | ((with_reducible refine br_t ?sc ?_); case sc => exact sideB))
  refine turn_call hc hn ?_
  repeat ((conv => whnf); first | with_reducible refine O_step ?_ | with_reducible refine S_step ?_ | with_reducible refine D_step ?_ | with_reducible refine RO.exit ?_ | with_reducible refine RO.ret ?_ | ((with_reducible refine And.intro ?sc ?_); case sc => exact side) | ((with_reducible refine br_f ?sc ?_); case sc => exact sideB) | ((with_reducible refine br_t ?sc ?_); case sc => exact sideB))
  exact hK
theorem new1_call {es : List ((Int × Int) × Int)} {s code n : Nat} (hs : s < 2 ^ 30) (hc : code < 2 ^ 30) (hn : n ≤ 30) (hK : K (.tup []) (newH ls c (oneM es (s, code, n)))) :
    CallA Try.prog 64 [.int .i64 s, .int .i64 code, .int .i64 n, .ptr 3 0 0] (newH ls c es) K Kp := by
  refine step64 (fun _ => [3, 2]) [] rfl ?_
  repeat ((conv => whnf); first | with_reducible refine O_step ?_ | with_reducible refine S_step ?_ | with_reducible refine D_step ?_ | with_reducible refine RO.exit ?_ | with_reducible refine RO.ret ?_ | ((with_reducible refine And.intro ?sc ?_); case sc => exact side) | ((with_reducible refine br_f ?sc ?_); case sc => exact sideB) | ((with_reducible refine br_t ?sc ?_); case sc => exact sideB))
  intro es' hes
  replace hes : es' = mzM (updZ ((code : Int), (n : Int)) (s : Int) es) := by rw [hes]; exact updM_mz ((code : Int), (n : Int)) (s : Int) es
  subst hes
  repeat ((conv => whnf); first | with_reducible refine O_step ?_ | with_reducible refine S_step ?_ | with_reducible refine D_step ?_ | with_reducible refine RO.exit ?_ | with_reducible refine RO.ret ?_ | ((with_reducible refine And.intro ?sc ?_); case sc => exact side))
  refine WO.go (σ := Nat × List ((Int × Int) × Int)) (fun st => st.1 ≤ n ∧ downM (s, code, n) st.1 st.2 = oneM es (s, code, n)) (fun st => st.1)
    (fun st => [(1, .int .i64 code), (2, .int .i64 n), (3, .ptr 3 0 0), (7, .int .i64 ((st.1 : Int) - 1))]) (fun st => newH ls c st.2) (n, updZ ((code : Int), (n : Int)) (s : Int) es) tb_ok mixed (by kernel_rfl) ⟨Nat.le_refl _, rfl⟩ (And.intro rfl (And.intro rfl (And.intro rfl (And.intro rfl (trivial))))) (And.intro rfl (And.intro rfl (And.intro rfl (And.intro rfl (trivial))))) (fun _ => rfl) (fun _ => rfl) (fun _ => newH_nb) ?_
  rintro ⟨k, e1⟩ ⟨h1, h2⟩ d
  simp only at h1 h2
  repeat ((conv => whnf); first | with_reducible refine O_step ?_ | with_reducible refine S_step ?_ | with_reducible refine D_step ?_ | with_reducible refine RO.exit ?_ | with_reducible refine RO.ret ?_ | ((with_reducible refine And.intro ?sc ?_); case sc => exact side))
  refine And.intro (fun hd => ?_) (fun hd => ?_)
  · simp only [decide_eq_true_eq] at hd
    obtain ⟨j, rfl⟩ : ∃ j, k = j + 1 := ⟨k - 1, by omega⟩
    have hsh : shrF .i64 (code : Int) ((n : Int) - (((j + 1 : Nat) : Int) - 1)) = ((code / 2 ^ (n - j) : Nat) : Int) := by
      rw [show (n : Int) - (((j + 1 : Nat) : Int) - 1) = ((n - j : Nat) : Int) by omega]
      exact shrK64 (by omega)
    have hj : ((j + 1 : Nat) : Int) - 1 = (j : Int) := by omega
    repeat ((conv => whnf); first | with_reducible refine O_step ?_ | with_reducible refine S_step ?_ | with_reducible refine D_step ?_ | with_reducible refine RO.exit ?_ | with_reducible refine RO.ret ?_ | ((with_reducible refine And.intro ?sc ?_); case sc => exact side))
    intro es' hes
    replace hes : es' = mzM (updZ (((code / 2 ^ (n - j) : Nat) : Int), (j : Int)) (-1) e1) := by
      rw [hes, ← updM_mz, ← hsh, ← hj]; rfl
    subst hes
    repeat ((conv => whnf); first | with_reducible refine O_step ?_ | with_reducible refine S_step ?_ | with_reducible refine D_step ?_ | with_reducible refine RO.exit ?_ | with_reducible refine RO.ret ?_ | ((with_reducible refine And.intro ?sc ?_); case sc => exact side))
    refine RO.same (j, updZ (((code / 2 ^ (n - j) : Nat) : Int), (j : Int)) (-1) e1) ⟨by show j ≤ n; omega, h2⟩ (Nat.lt_succ_self j) (And.intro rfl (And.intro rfl (And.intro rfl (And.intro ?_ trivial)))) (And.intro rfl (And.intro rfl (And.intro rfl (And.intro rfl (trivial)))))
    show AV.int .i64 (((j + 1 : Nat) : Int) - 1 - 1) = AV.int .i64 ((j : Int) - 1)
    rw [hj]
  · simp only [decide_eq_false_iff_not] at hd
    obtain rfl : k = 0 := by omega
    have h2 : e1 = oneM es (s, code, n) := h2
    subst h2
    repeat ((conv => whnf); first | with_reducible refine O_step ?_ | with_reducible refine S_step ?_ | with_reducible refine D_step ?_ | with_reducible refine RO.exit ?_ | with_reducible refine RO.ret ?_ | ((with_reducible refine And.intro ?sc ?_); case sc => exact side))
    exact hK
end

end Go.Proofs.Yteinenklppbjkaa
