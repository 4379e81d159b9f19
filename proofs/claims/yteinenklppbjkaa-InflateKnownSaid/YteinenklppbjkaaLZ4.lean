/- Layer 8: InflateKnown. -/
import Derived.Test.YteinenklppbjkaaLZ3

set_option linter.unusedVariables false

set_option linter.unusedSimpArgs false

open Go.RowKit

namespace Go.Proofs.Yteinenklppbjkaa

set_option maxRecDepth 10000

def rowsK : List (List AV) := [[.sl 0 0 0 8 8, .str (ByteArray.mk #[97, 98, 99]), .int .i64 8, .int .i64 0], [.sl 1 0 0 5 5, .str (ByteArray.mk #[97, 98, 99]), .int .i64 5, .int .i64 0], [.sl 2 0 0 2 2, .str (ByteArray.mk #[]), .int .i64 0, .int .i64 50], [.sl 3 0 0 8 8, .str (ByteArray.mk #[]), .int .i64 0, .int .i64 80], [.sl 4 0 0 1 1, .str (ByteArray.mk #[]), .int .i64 0, .int .i64 80], [.ns, .str (ByteArray.mk #[]), .int .i64 0, .int .i64 50], [.sl 5 0 0 7 7, .str (ByteArray.mk #[]), .int .i64 0, .int .i64 50], [.sl 6 0 0 13 13, .str (ByteArray.mk #[120, 121]), .int .i64 12, .int .i64 0], [.sl 7 0 0 2 2, .str (ByteArray.mk #[]), .int .i64 2, .int .i64 0], [.sl 8 0 0 1 1, .str (ByteArray.mk #[]), .int .i64 0, .int .i64 50]]
def kH : AH := [.one true 0 (.ints .u8 [1, 3, 0, 252, 255, 97, 98, 99] 8), .one true 0 (.ints .u8 [75, 76, 74, 6, 0] 5), .one true 0 (.ints .u8 [75, 4] 2), .one true 0 (.ints .u8 [1, 3, 0, 253, 255, 97, 98, 99] 8), .one true 0 (.ints .u8 [7] 1), .one true 0 (.ints .u8 [1, 3, 0, 252, 255, 97, 98] 7), .one true 0 (.ints .u8 [0, 1, 0, 254, 255, 120, 1, 1, 0, 254, 255, 121, 9] 13), .one true 0 (.ints .u8 [3, 0] 2), .one true 0 (.ints .u8 [1] 1), .one true 0 (.tab 4 10 (fun j => rowsK.getD j []) 10)]
theorem notT8 {b : Bool} (h : b = true) : (!b) = false := by rw [h]; rfl
theorem rowsK_nb : ∀ j, AV.nbl 10 (rowsK.getD j []) = true := by
  intro j
  rcases Nat.lt_or_ge j 10 with h | h
  · have : ∀ j, j < 10 → AV.nbl 10 (rowsK.getD j []) = true := by decide
    exact this j h
  · rw [List.getD_eq_getElem?_getD, List.getElem?_eq_none (show rowsK.length ≤ j from h)]; rfl
theorem kH_nb : nbH 10 kH := ⟨trivial, trivial, trivial, trivial, trivial, trivial, trivial, trivial, trivial, rowsK_nb, trivial⟩
section

variable {M : AH} {K Kp : AV → AH → Prop}

theorem inflate_nil {n : Int} (h : CallA Try.prog 7 [.sl M.length 0 0 0 0, .int .i64 n] (M ++ [.one true 0 (.ints .u8 [] 0)]) K Kp) : CallA Try.prog 7 [.ns, .int .i64 n] M K Kp :=
  CallA.view (Vw.nils (x := .ints .u8 [] 0) (l' := [.sl M.length 0 0 0 0, .int .i64 n]) ⟨rfl, rfl⟩ (And.intro (.inr ⟨rfl, rfl⟩) (And.intro (.inl rfl) trivial))) h
theorem wrong_at8 (h : K (.bo true) M) : CallA Try.prog 9 [] M K Kp := by
  refine CallA.lift [] (wrong_call8 (K := fun r N => r = .bo true ∧ N = []) (Kp := fun _ _ => False) ⟨rfl, rfl⟩) rfl rfl trivial trivial ?_ (fun _ _ h => h.elim)
  rintro r M' ⟨rfl, rfl⟩
  rw [← List.append_nil M] at h
  exact ⟨rfl, h⟩
end

set_option maxHeartbeats 4000000 in
theorem inflateKnown_law : CallA Try.prog 5 [] [] (fun r _ => r = .bo true) (fun _ _ => False) := by
  refine CallA.post_asB ?_
  refine step5 (fun _ => [0, 9, 10, 11]) [] rfl ?_
  repeat ((conv => whnf); first | with_reducible refine O_step ?_ | with_reducible refine S_step ?_ | with_reducible refine D_step ?_ | with_reducible refine RO.exit ?_ | with_reducible refine RO.ret ?_ | ((with_reducible refine And.intro ?sc ?_); case sc => exact side) | ((with_reducible refine br_f ?sc ?_); case sc => exact sideB) | ((with_reducible refine br_t ?sc ?_); case sc => exact sideB))
  refine WO.gov (σ := Nat) (fun i => i ≤ 10) (fun i => 10 - i) (fun i => [(1, .sl 9 0 0 10 10), (2, .int .i64 (i : Int))]) (fun _ => kH) 0 tb_ok mixed (by kernel_rfl) [(1, .sl 9 0 0 10 10), (2, .int .i64 0)] _ (Nat.zero_le _) (And.intro rfl (And.intro rfl (trivial))) rfl
    (Vw.tab (i := 9) (fun j => rowsK.getD j []) rfl ?_) (And.intro rfl (And.intro rfl (And.intro rfl (And.intro rfl (And.intro rfl (And.intro rfl (And.intro rfl (And.intro rfl (And.intro rfl (And.intro rfl (trivial))))))))))) (fun _ => rfl) (fun _ => rfl) (fun _ => kH_nb) ?_
  · intro r hr
    refine congrArg (fun l => List.getD l r []) (?_ : rowsK = _)
    kernel_rfl
  intro i hi d
  have hi : i ≤ 10 := hi
  refine Or.elim (Nat.lt_or_ge i 10) (fun hl => ?_) (fun hl => ?_)
  · match i, hl with
    | 0, _ =>
      repeat ((conv => whnf); first | with_reducible refine O_step ?_ | with_reducible refine S_step ?_ | with_reducible refine D_step ?_ | with_reducible refine RO.exit ?_ | with_reducible refine RO.ret ?_ | ((with_reducible refine And.intro ?sc ?_); case sc => exact side) | ((with_reducible refine br_f ?sc ?_); case sc => exact sideB) | ((with_reducible refine br_t ?sc ?_); case sc => exact sideB))
      refine inflate_at (i := 0) (xs := ([1, 3, 0, 252, 255, 97, 98, 99] : List Int)) (limit := 100) rfl rfl (by decide) (by decide) (by decide) (by decide) (fun h => absurd h (by decide)) (fun g c s _ _ e1 _ _ => ?_) (fun e _ _ e1 => ?_)
      · have e2 : infR ([1, 3, 0, 252, 255, 97, 98, 99] : List Int) 100 = .ok ((), s) := e1
        rw [zk0] at e2
        obtain rfl : ({ a := 64, out := ([97, 98, 99] : List Int) } : DS) = s := by injection e2 with e2; injection e2
        repeat ((conv => whnf); first | with_reducible refine O_step ?_ | with_reducible refine S_step ?_ | with_reducible refine D_step ?_ | with_reducible refine RO.exit ?_ | with_reducible refine RO.ret ?_ | ((with_reducible refine And.intro ?sc ?_); case sc => exact side) | ((with_reducible refine br_f ?sc ?_); case sc => exact sideB) | ((with_reducible refine br_t ?sc ?_); case sc => exact sideB))
        intro ys hys
        obtain rfl : ys = ([97, 98, 99] : List Int) := by rw [hys]; rfl
        repeat ((conv => whnf); first | with_reducible refine O_step ?_ | with_reducible refine S_step ?_ | with_reducible refine D_step ?_ | with_reducible refine RO.exit ?_ | with_reducible refine RO.ret ?_ | ((with_reducible refine And.intro ?sc ?_); case sc => exact side) | ((with_reducible refine br_f ?sc ?_); case sc => exact sideB) | ((with_reducible refine br_t ?sc ?_); case sc => exact sideB))
        refine br_f (notT8 (str_const _ rfl)) ?_
        repeat ((conv => whnf); first | with_reducible refine O_step ?_ | with_reducible refine S_step ?_ | with_reducible refine D_step ?_ | with_reducible refine RO.exit ?_ | with_reducible refine RO.ret ?_ | ((with_reducible refine And.intro ?sc ?_); case sc => exact side) | ((with_reducible refine br_f ?sc ?_); case sc => exact sideB) | ((with_reducible refine br_t ?sc ?_); case sc => exact sideB))
        refine RO.same (0 + 1) (by decide) (by decide) (And.intro rfl (And.intro rfl (trivial))) (And.intro rfl (And.intro rfl (And.intro rfl (And.intro rfl (And.intro rfl (And.intro rfl (And.intro rfl (And.intro rfl (And.intro rfl (And.intro rfl (trivial)))))))))))
      · have e2 : infR ([1, 3, 0, 252, 255, 97, 98, 99] : List Int) 100 = .error e := e1
        rw [zk0] at e2
        cases e2
    | 1, _ =>
      repeat ((conv => whnf); first | with_reducible refine O_step ?_ | with_reducible refine S_step ?_ | with_reducible refine D_step ?_ | with_reducible refine RO.exit ?_ | with_reducible refine RO.ret ?_ | ((with_reducible refine And.intro ?sc ?_); case sc => exact side) | ((with_reducible refine br_f ?sc ?_); case sc => exact sideB) | ((with_reducible refine br_t ?sc ?_); case sc => exact sideB))
      refine inflate_at (i := 1) (xs := ([75, 76, 74, 6, 0] : List Int)) (limit := 100) rfl rfl (by decide) (by decide) (by decide) (by decide) (fun h => absurd h (by decide)) (fun g c s _ _ e1 _ _ => ?_) (fun e _ _ e1 => ?_)
      · have e2 : infR ([75, 76, 74, 6, 0] : List Int) 100 = .ok ((), s) := e1
        rw [zk1] at e2
        obtain rfl : ({ a := 34, out := ([97, 98, 99] : List Int) } : DS) = s := by injection e2 with e2; injection e2
        repeat ((conv => whnf); first | with_reducible refine O_step ?_ | with_reducible refine S_step ?_ | with_reducible refine D_step ?_ | with_reducible refine RO.exit ?_ | with_reducible refine RO.ret ?_ | ((with_reducible refine And.intro ?sc ?_); case sc => exact side) | ((with_reducible refine br_f ?sc ?_); case sc => exact sideB) | ((with_reducible refine br_t ?sc ?_); case sc => exact sideB))
        intro ys hys
        obtain rfl : ys = ([97, 98, 99] : List Int) := by rw [hys]; rfl
        repeat ((conv => whnf); first | with_reducible refine O_step ?_ | with_reducible refine S_step ?_ | with_reducible refine D_step ?_ | with_reducible refine RO.exit ?_ | with_reducible refine RO.ret ?_ | ((with_reducible refine And.intro ?sc ?_); case sc => exact side) | ((with_reducible refine br_f ?sc ?_); case sc => exact sideB) | ((with_reducible refine br_t ?sc ?_); case sc => exact sideB))
        refine br_f (notT8 (str_const _ rfl)) ?_
        repeat ((conv => whnf); first | with_reducible refine O_step ?_ | with_reducible refine S_step ?_ | with_reducible refine D_step ?_ | with_reducible refine RO.exit ?_ | with_reducible refine RO.ret ?_ | ((with_reducible refine And.intro ?sc ?_); case sc => exact side) | ((with_reducible refine br_f ?sc ?_); case sc => exact sideB) | ((with_reducible refine br_t ?sc ?_); case sc => exact sideB))
        refine RO.same (1 + 1) (by decide) (by decide) (And.intro rfl (And.intro rfl (trivial))) (And.intro rfl (And.intro rfl (And.intro rfl (And.intro rfl (And.intro rfl (And.intro rfl (And.intro rfl (And.intro rfl (And.intro rfl (And.intro rfl (trivial)))))))))))
      · have e2 : infR ([75, 76, 74, 6, 0] : List Int) 100 = .error e := e1
        rw [zk1] at e2
        cases e2
    | 2, _ =>
      repeat ((conv => whnf); first | with_reducible refine O_step ?_ | with_reducible refine S_step ?_ | with_reducible refine D_step ?_ | with_reducible refine RO.exit ?_ | with_reducible refine RO.ret ?_ | ((with_reducible refine And.intro ?sc ?_); case sc => exact side) | ((with_reducible refine br_f ?sc ?_); case sc => exact sideB) | ((with_reducible refine br_t ?sc ?_); case sc => exact sideB))
      refine inflate_at (i := 2) (xs := ([75, 4] : List Int)) (limit := 100) rfl rfl (by decide) (by decide) (by decide) (by decide) (fun h => absurd h (by decide)) (fun g c s _ _ e1 _ _ => ?_) (fun e _ _ e1 => ?_)
      · have e2 : infR ([75, 4] : List Int) 100 = .ok ((), s) := e1
        rw [zk2] at e2
        cases e2
      · have e2 : infR ([75, 4] : List Int) 100 = .error e := e1
        rw [zk2] at e2
        obtain rfl : (50 : Int) = e := by injection e2
        repeat ((conv => whnf); first | with_reducible refine O_step ?_ | with_reducible refine S_step ?_ | with_reducible refine D_step ?_ | with_reducible refine RO.exit ?_ | with_reducible refine RO.ret ?_ | ((with_reducible refine And.intro ?sc ?_); case sc => exact side) | ((with_reducible refine br_f ?sc ?_); case sc => exact sideB) | ((with_reducible refine br_t ?sc ?_); case sc => exact sideB))
        refine RO.same (2 + 1) (by decide) (by decide) (And.intro rfl (And.intro rfl (trivial))) (And.intro rfl (And.intro rfl (And.intro rfl (And.intro rfl (And.intro rfl (And.intro rfl (And.intro rfl (And.intro rfl (And.intro rfl (And.intro rfl (trivial)))))))))))
    | 3, _ =>
      repeat ((conv => whnf); first | with_reducible refine O_step ?_ | with_reducible refine S_step ?_ | with_reducible refine D_step ?_ | with_reducible refine RO.exit ?_ | with_reducible refine RO.ret ?_ | ((with_reducible refine And.intro ?sc ?_); case sc => exact side) | ((with_reducible refine br_f ?sc ?_); case sc => exact sideB) | ((with_reducible refine br_t ?sc ?_); case sc => exact sideB))
      refine inflate_at (i := 3) (xs := ([1, 3, 0, 253, 255, 97, 98, 99] : List Int)) (limit := 100) rfl rfl (by decide) (by decide) (by decide) (by decide) (fun h => absurd h (by decide)) (fun g c s _ _ e1 _ _ => ?_) (fun e _ _ e1 => ?_)
      · have e2 : infR ([1, 3, 0, 253, 255, 97, 98, 99] : List Int) 100 = .ok ((), s) := e1
        rw [zk3] at e2
        cases e2
      · have e2 : infR ([1, 3, 0, 253, 255, 97, 98, 99] : List Int) 100 = .error e := e1
        rw [zk3] at e2
        obtain rfl : (80 : Int) = e := by injection e2
        repeat ((conv => whnf); first | with_reducible refine O_step ?_ | with_reducible refine S_step ?_ | with_reducible refine D_step ?_ | with_reducible refine RO.exit ?_ | with_reducible refine RO.ret ?_ | ((with_reducible refine And.intro ?sc ?_); case sc => exact side) | ((with_reducible refine br_f ?sc ?_); case sc => exact sideB) | ((with_reducible refine br_t ?sc ?_); case sc => exact sideB))
        refine RO.same (3 + 1) (by decide) (by decide) (And.intro rfl (And.intro rfl (trivial))) (And.intro rfl (And.intro rfl (And.intro rfl (And.intro rfl (And.intro rfl (And.intro rfl (And.intro rfl (And.intro rfl (And.intro rfl (And.intro rfl (trivial)))))))))))
    | 4, _ =>
      repeat ((conv => whnf); first | with_reducible refine O_step ?_ | with_reducible refine S_step ?_ | with_reducible refine D_step ?_ | with_reducible refine RO.exit ?_ | with_reducible refine RO.ret ?_ | ((with_reducible refine And.intro ?sc ?_); case sc => exact side) | ((with_reducible refine br_f ?sc ?_); case sc => exact sideB) | ((with_reducible refine br_t ?sc ?_); case sc => exact sideB))
      refine inflate_at (i := 4) (xs := ([7] : List Int)) (limit := 100) rfl rfl (by decide) (by decide) (by decide) (by decide) (fun h => absurd h (by decide)) (fun g c s _ _ e1 _ _ => ?_) (fun e _ _ e1 => ?_)
      · have e2 : infR ([7] : List Int) 100 = .ok ((), s) := e1
        rw [zk4] at e2
        cases e2
      · have e2 : infR ([7] : List Int) 100 = .error e := e1
        rw [zk4] at e2
        obtain rfl : (80 : Int) = e := by injection e2
        repeat ((conv => whnf); first | with_reducible refine O_step ?_ | with_reducible refine S_step ?_ | with_reducible refine D_step ?_ | with_reducible refine RO.exit ?_ | with_reducible refine RO.ret ?_ | ((with_reducible refine And.intro ?sc ?_); case sc => exact side) | ((with_reducible refine br_f ?sc ?_); case sc => exact sideB) | ((with_reducible refine br_t ?sc ?_); case sc => exact sideB))
        refine RO.same (4 + 1) (by decide) (by decide) (And.intro rfl (And.intro rfl (trivial))) (And.intro rfl (And.intro rfl (And.intro rfl (And.intro rfl (And.intro rfl (And.intro rfl (And.intro rfl (And.intro rfl (And.intro rfl (And.intro rfl (trivial)))))))))))
    | 5, _ =>
      repeat ((conv => whnf); first | with_reducible refine O_step ?_ | with_reducible refine S_step ?_ | with_reducible refine D_step ?_ | with_reducible refine RO.exit ?_ | with_reducible refine RO.ret ?_ | ((with_reducible refine And.intro ?sc ?_); case sc => exact side) | ((with_reducible refine br_f ?sc ?_); case sc => exact sideB) | ((with_reducible refine br_t ?sc ?_); case sc => exact sideB))
      refine inflate_nil ?_
      refine inflate_at (i := 10) (xs := []) (limit := 100) rfl rfl (by decide) (by decide) (by decide) (by decide) (fun h => absurd h (by decide)) (fun g c s _ _ e1 _ _ => ?_) (fun e _ _ e1 => ?_)
      · have e2 : infR [] 100 = .ok ((), s) := e1
        rw [zk5] at e2
        cases e2
      · have e2 : infR [] 100 = .error e := e1
        rw [zk5] at e2
        obtain rfl : (50 : Int) = e := by injection e2
        repeat ((conv => whnf); first | with_reducible refine O_step ?_ | with_reducible refine S_step ?_ | with_reducible refine D_step ?_ | with_reducible refine RO.exit ?_ | with_reducible refine RO.ret ?_ | ((with_reducible refine And.intro ?sc ?_); case sc => exact side) | ((with_reducible refine br_f ?sc ?_); case sc => exact sideB) | ((with_reducible refine br_t ?sc ?_); case sc => exact sideB))
        refine RO.same (5 + 1) (by decide) (by decide) (And.intro rfl (And.intro rfl (trivial))) (And.intro rfl (And.intro rfl (And.intro rfl (And.intro rfl (And.intro rfl (And.intro rfl (And.intro rfl (And.intro rfl (And.intro rfl (And.intro rfl (trivial)))))))))))
    | 6, _ =>
      repeat ((conv => whnf); first | with_reducible refine O_step ?_ | with_reducible refine S_step ?_ | with_reducible refine D_step ?_ | with_reducible refine RO.exit ?_ | with_reducible refine RO.ret ?_ | ((with_reducible refine And.intro ?sc ?_); case sc => exact side) | ((with_reducible refine br_f ?sc ?_); case sc => exact sideB) | ((with_reducible refine br_t ?sc ?_); case sc => exact sideB))
      refine inflate_at (i := 5) (xs := ([1, 3, 0, 252, 255, 97, 98] : List Int)) (limit := 100) rfl rfl (by decide) (by decide) (by decide) (by decide) (fun h => absurd h (by decide)) (fun g c s _ _ e1 _ _ => ?_) (fun e _ _ e1 => ?_)
      · have e2 : infR ([1, 3, 0, 252, 255, 97, 98] : List Int) 100 = .ok ((), s) := e1
        rw [zk6] at e2
        cases e2
      · have e2 : infR ([1, 3, 0, 252, 255, 97, 98] : List Int) 100 = .error e := e1
        rw [zk6] at e2
        obtain rfl : (50 : Int) = e := by injection e2
        repeat ((conv => whnf); first | with_reducible refine O_step ?_ | with_reducible refine S_step ?_ | with_reducible refine D_step ?_ | with_reducible refine RO.exit ?_ | with_reducible refine RO.ret ?_ | ((with_reducible refine And.intro ?sc ?_); case sc => exact side) | ((with_reducible refine br_f ?sc ?_); case sc => exact sideB) | ((with_reducible refine br_t ?sc ?_); case sc => exact sideB))
        refine RO.same (6 + 1) (by decide) (by decide) (And.intro rfl (And.intro rfl (trivial))) (And.intro rfl (And.intro rfl (And.intro rfl (And.intro rfl (And.intro rfl (And.intro rfl (And.intro rfl (And.intro rfl (And.intro rfl (And.intro rfl (trivial)))))))))))
    | 7, _ =>
      repeat ((conv => whnf); first | with_reducible refine O_step ?_ | with_reducible refine S_step ?_ | with_reducible refine D_step ?_ | with_reducible refine RO.exit ?_ | with_reducible refine RO.ret ?_ | ((with_reducible refine And.intro ?sc ?_); case sc => exact side) | ((with_reducible refine br_f ?sc ?_); case sc => exact sideB) | ((with_reducible refine br_t ?sc ?_); case sc => exact sideB))
      refine inflate_at (i := 6) (xs := ([0, 1, 0, 254, 255, 120, 1, 1, 0, 254, 255, 121, 9] : List Int)) (limit := 100) rfl rfl (by decide) (by decide) (by decide) (by decide) (fun h => absurd h (by decide)) (fun g c s _ _ e1 _ _ => ?_) (fun e _ _ e1 => ?_)
      · have e2 : infR ([0, 1, 0, 254, 255, 120, 1, 1, 0, 254, 255, 121, 9] : List Int) 100 = .ok ((), s) := e1
        rw [zk7] at e2
        obtain rfl : ({ a := 96, out := ([120, 121] : List Int) } : DS) = s := by injection e2 with e2; injection e2
        repeat ((conv => whnf); first | with_reducible refine O_step ?_ | with_reducible refine S_step ?_ | with_reducible refine D_step ?_ | with_reducible refine RO.exit ?_ | with_reducible refine RO.ret ?_ | ((with_reducible refine And.intro ?sc ?_); case sc => exact side) | ((with_reducible refine br_f ?sc ?_); case sc => exact sideB) | ((with_reducible refine br_t ?sc ?_); case sc => exact sideB))
        intro ys hys
        obtain rfl : ys = ([120, 121] : List Int) := by rw [hys]; rfl
        repeat ((conv => whnf); first | with_reducible refine O_step ?_ | with_reducible refine S_step ?_ | with_reducible refine D_step ?_ | with_reducible refine RO.exit ?_ | with_reducible refine RO.ret ?_ | ((with_reducible refine And.intro ?sc ?_); case sc => exact side) | ((with_reducible refine br_f ?sc ?_); case sc => exact sideB) | ((with_reducible refine br_t ?sc ?_); case sc => exact sideB))
        refine br_f (notT8 (str_const _ rfl)) ?_
        repeat ((conv => whnf); first | with_reducible refine O_step ?_ | with_reducible refine S_step ?_ | with_reducible refine D_step ?_ | with_reducible refine RO.exit ?_ | with_reducible refine RO.ret ?_ | ((with_reducible refine And.intro ?sc ?_); case sc => exact side) | ((with_reducible refine br_f ?sc ?_); case sc => exact sideB) | ((with_reducible refine br_t ?sc ?_); case sc => exact sideB))
        refine RO.same (7 + 1) (by decide) (by decide) (And.intro rfl (And.intro rfl (trivial))) (And.intro rfl (And.intro rfl (And.intro rfl (And.intro rfl (And.intro rfl (And.intro rfl (And.intro rfl (And.intro rfl (And.intro rfl (And.intro rfl (trivial)))))))))))
      · have e2 : infR ([0, 1, 0, 254, 255, 120, 1, 1, 0, 254, 255, 121, 9] : List Int) 100 = .error e := e1
        rw [zk7] at e2
        cases e2
    | 8, _ =>
      repeat ((conv => whnf); first | with_reducible refine O_step ?_ | with_reducible refine S_step ?_ | with_reducible refine D_step ?_ | with_reducible refine RO.exit ?_ | with_reducible refine RO.ret ?_ | ((with_reducible refine And.intro ?sc ?_); case sc => exact side) | ((with_reducible refine br_f ?sc ?_); case sc => exact sideB) | ((with_reducible refine br_t ?sc ?_); case sc => exact sideB))
      refine inflate_at (i := 7) (xs := ([3, 0] : List Int)) (limit := 100) rfl rfl (by decide) (by decide) (by decide) (by decide) (fun h => absurd h (by decide)) (fun g c s _ _ e1 _ _ => ?_) (fun e _ _ e1 => ?_)
      · have e2 : infR ([3, 0] : List Int) 100 = .ok ((), s) := e1
        rw [zk8] at e2
        obtain rfl : ({ a := 10, out := ([] : List Int) } : DS) = s := by injection e2 with e2; injection e2
        repeat ((conv => whnf); first | with_reducible refine O_step ?_ | with_reducible refine S_step ?_ | with_reducible refine D_step ?_ | with_reducible refine RO.exit ?_ | with_reducible refine RO.ret ?_ | ((with_reducible refine And.intro ?sc ?_); case sc => exact side) | ((with_reducible refine br_f ?sc ?_); case sc => exact sideB) | ((with_reducible refine br_t ?sc ?_); case sc => exact sideB))
        intro ys hys
        obtain rfl : ys = ([] : List Int) := by rw [hys]; rfl
        repeat ((conv => whnf); first | with_reducible refine O_step ?_ | with_reducible refine S_step ?_ | with_reducible refine D_step ?_ | with_reducible refine RO.exit ?_ | with_reducible refine RO.ret ?_ | ((with_reducible refine And.intro ?sc ?_); case sc => exact side) | ((with_reducible refine br_f ?sc ?_); case sc => exact sideB) | ((with_reducible refine br_t ?sc ?_); case sc => exact sideB))
        refine br_f (notT8 (str_const _ rfl)) ?_
        repeat ((conv => whnf); first | with_reducible refine O_step ?_ | with_reducible refine S_step ?_ | with_reducible refine D_step ?_ | with_reducible refine RO.exit ?_ | with_reducible refine RO.ret ?_ | ((with_reducible refine And.intro ?sc ?_); case sc => exact side) | ((with_reducible refine br_f ?sc ?_); case sc => exact sideB) | ((with_reducible refine br_t ?sc ?_); case sc => exact sideB))
        refine RO.same (8 + 1) (by decide) (by decide) (And.intro rfl (And.intro rfl (trivial))) (And.intro rfl (And.intro rfl (And.intro rfl (And.intro rfl (And.intro rfl (And.intro rfl (And.intro rfl (And.intro rfl (And.intro rfl (And.intro rfl (trivial)))))))))))
      · have e2 : infR ([3, 0] : List Int) 100 = .error e := e1
        rw [zk8] at e2
        cases e2
    | 9, _ =>
      repeat ((conv => whnf); first | with_reducible refine O_step ?_ | with_reducible refine S_step ?_ | with_reducible refine D_step ?_ | with_reducible refine RO.exit ?_ | with_reducible refine RO.ret ?_ | ((with_reducible refine And.intro ?sc ?_); case sc => exact side) | ((with_reducible refine br_f ?sc ?_); case sc => exact sideB) | ((with_reducible refine br_t ?sc ?_); case sc => exact sideB))
      refine inflate_at (i := 8) (xs := ([1] : List Int)) (limit := 100) rfl rfl (by decide) (by decide) (by decide) (by decide) (fun h => absurd h (by decide)) (fun g c s _ _ e1 _ _ => ?_) (fun e _ _ e1 => ?_)
      · have e2 : infR ([1] : List Int) 100 = .ok ((), s) := e1
        rw [zk9] at e2
        cases e2
      · have e2 : infR ([1] : List Int) 100 = .error e := e1
        rw [zk9] at e2
        obtain rfl : (50 : Int) = e := by injection e2
        repeat ((conv => whnf); first | with_reducible refine O_step ?_ | with_reducible refine S_step ?_ | with_reducible refine D_step ?_ | with_reducible refine RO.exit ?_ | with_reducible refine RO.ret ?_ | ((with_reducible refine And.intro ?sc ?_); case sc => exact side) | ((with_reducible refine br_f ?sc ?_); case sc => exact sideB) | ((with_reducible refine br_t ?sc ?_); case sc => exact sideB))
        refine RO.same (9 + 1) (by decide) (by decide) (And.intro rfl (And.intro rfl (trivial))) (And.intro rfl (And.intro rfl (And.intro rfl (And.intro rfl (And.intro rfl (And.intro rfl (And.intro rfl (And.intro rfl (And.intro rfl (And.intro rfl (trivial)))))))))))
  · obtain rfl : i = 10 := by omega
    repeat ((conv => whnf); first | with_reducible refine O_step ?_ | with_reducible refine S_step ?_ | with_reducible refine D_step ?_ | with_reducible refine RO.exit ?_ | with_reducible refine RO.ret ?_ | ((with_reducible refine And.intro ?sc ?_); case sc => exact side) | ((with_reducible refine br_f ?sc ?_); case sc => exact sideB) | ((with_reducible refine br_t ?sc ?_); case sc => exact sideB))
    refine inflate_at (i := 10) (xs := [75, 76, 74, 6, 0]) (limit := 2) rfl rfl (Nat.le_refl _) (by decide) (by decide) (by decide) (fun h => absurd h (by decide)) (fun g c s _ _ e1 _ _ => ?_) (fun e _ _ e1 => ?_)
    · have e2 : infR [75, 76, 74, 6, 0] 2 = .ok ((), s) := e1
      rw [zk10] at e2
      cases e2
    have e2 : infR [75, 76, 74, 6, 0] 2 = .error e := e1
    rw [zk10] at e2
    obtain rfl : (81 : Int) = e := by injection e2
    clear e1 e2
    repeat ((conv => whnf); first | with_reducible refine O_step ?_ | with_reducible refine S_step ?_ | with_reducible refine D_step ?_ | with_reducible refine RO.exit ?_ | with_reducible refine RO.ret ?_ | ((with_reducible refine And.intro ?sc ?_); case sc => exact side) | ((with_reducible refine br_f ?sc ?_); case sc => exact sideB) | ((with_reducible refine br_t ?sc ?_); case sc => exact sideB))
    refine inflate_at (i := 11) (xs := [1, 3, 0, 252, 255]) (limit := 2) rfl rfl (Nat.le_refl _) (by decide) (by decide) (by decide) (fun h => absurd h (by decide)) (fun g c s _ _ e1 _ _ => ?_) (fun e _ _ e1 => ?_)
    · have e2 : infR [1, 3, 0, 252, 255] 2 = .ok ((), s) := e1
      rw [zk11] at e2
      cases e2
    have e2 : infR [1, 3, 0, 252, 255] 2 = .error e := e1
    rw [zk11] at e2
    obtain rfl : (81 : Int) = e := by injection e2
    clear e1 e2
    repeat ((conv => whnf); first | with_reducible refine O_step ?_ | with_reducible refine S_step ?_ | with_reducible refine D_step ?_ | with_reducible refine RO.exit ?_ | with_reducible refine RO.ret ?_ | ((with_reducible refine And.intro ?sc ?_); case sc => exact side) | ((with_reducible refine br_f ?sc ?_); case sc => exact sideB) | ((with_reducible refine br_t ?sc ?_); case sc => exact sideB))
    refine inflate_at (i := 12) (xs := [3, 0]) (limit := -1) rfl rfl (Nat.le_refl _) (by decide) (by decide) (by decide) (fun _ => ?_) (fun g c s h _ e1 _ _ => absurd h (by decide)) (fun e h _ e1 => absurd h (by decide))
    repeat ((conv => whnf); first | with_reducible refine O_step ?_ | with_reducible refine S_step ?_ | with_reducible refine D_step ?_ | with_reducible refine RO.exit ?_ | with_reducible refine RO.ret ?_ | ((with_reducible refine And.intro ?sc ?_); case sc => exact side) | ((with_reducible refine br_f ?sc ?_); case sc => exact sideB) | ((with_reducible refine br_t ?sc ?_); case sc => exact sideB))
    refine inflate_at (i := 13) (xs := [3, 0]) (limit := 524289) rfl rfl (Nat.le_refl _) (by decide) (by decide) (by decide) (fun _ => ?_) (fun g c s _ h e1 _ _ => absurd h (by decide)) (fun e _ h e1 => absurd h (by decide))
    repeat ((conv => whnf); first | with_reducible refine O_step ?_ | with_reducible refine S_step ?_ | with_reducible refine D_step ?_ | with_reducible refine RO.exit ?_ | with_reducible refine RO.ret ?_ | ((with_reducible refine And.intro ?sc ?_); case sc => exact side) | ((with_reducible refine br_f ?sc ?_); case sc => exact sideB) | ((with_reducible refine br_t ?sc ?_); case sc => exact sideB))
    refine inflate_at (i := 14) (xs := [3, 0]) (limit := 524288) rfl rfl (Nat.le_refl _) (by decide) (by decide) (by decide) (fun h => absurd h (by decide)) (fun g c s _ _ e1 _ _ => ?_) (fun e _ _ e1 => ?_)
    rotate_left
    · have e2 : infR [3, 0] 524288 = .error e := e1
      rw [zk12] at e2
      cases e2
    have e2 : infR [3, 0] 524288 = .ok ((), s) := e1
    rw [zk12] at e2
    obtain rfl : ({ a := 10, out := [] } : DS) = s := by injection e2 with e2; injection e2
    clear e1 e2
    repeat ((conv => whnf); first | with_reducible refine O_step ?_ | with_reducible refine S_step ?_ | with_reducible refine D_step ?_ | with_reducible refine RO.exit ?_ | with_reducible refine RO.ret ?_ | ((with_reducible refine And.intro ?sc ?_); case sc => exact side) | ((with_reducible refine br_f ?sc ?_); case sc => exact sideB) | ((with_reducible refine br_t ?sc ?_); case sc => exact sideB))
    refine wrong_at8 ?_
    repeat ((conv => whnf); first | with_reducible refine O_step ?_ | with_reducible refine S_step ?_ | with_reducible refine D_step ?_ | with_reducible refine RO.exit ?_ | with_reducible refine RO.ret ?_ | ((with_reducible refine And.intro ?sc ?_); case sc => exact side) | ((with_reducible refine br_f ?sc ?_); case sc => exact sideB) | ((with_reducible refine br_t ?sc ?_); case sc => exact sideB))
    refine reads_at ?_
    repeat ((conv => whnf); first | with_reducible refine O_step ?_ | with_reducible refine S_step ?_ | with_reducible refine D_step ?_ | with_reducible refine RO.exit ?_ | with_reducible refine RO.ret ?_ | ((with_reducible refine And.intro ?sc ?_); case sc => exact side) | ((with_reducible refine br_f ?sc ?_); case sc => exact sideB) | ((with_reducible refine br_t ?sc ?_); case sc => exact sideB))
    exact ⟨true, rfl, rfl⟩
end Go.Proofs.Yteinenklppbjkaa
