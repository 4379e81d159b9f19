/- Layer 8: InflateAhead. -/
import Derived.Test.YteinenklppbjkaaZ12

import Derived.Test.YteinenklppbjkaaZq

set_option linter.unusedVariables false

set_option linter.unusedSimpArgs false

open Go.RowKit

namespace Go.Proofs.Yteinenklppbjkaa

set_option maxRecDepth 10000

theorem bytesStr_data (xs : List Int) : (bytesStr xs).data.toList = xs.map (fun n => UInt8.ofNat n.toNat) := by
  rw [← ByteArray.toList_eq]; exact bytesStr_list xs
theorem bytesStr_size (xs : List Int) : (bytesStr xs).size = xs.length := by
  show (bytesStr xs).data.size = _
  rw [← Array.length_toList, bytesStr_data, List.length_map]
theorem bytesStr_append (a b : List Int) : bytesStr a ++ bytesStr b = bytesStr (a ++ b) := by
  apply ByteArray.ext
  apply Array.toList_inj.1
  rw [bytesStr_data, ByteArray.data_append, Array.toList_append, bytesStr_data, bytesStr_data, List.map_append]
theorem shr64_8 {x : Int} (h : 0 ≤ x) : shrF .i64 x 8 = x / 256 := Int.fdiv_eq_ediv_of_nonneg _ (by decide)
theorem inflateAhead_law (b : List Int) (c : Nat) (hc : b.length ≤ c ∧ c ≤ 9223372036854775807) (hx : ∀ x ∈ b, IntKind.u8.min ≤ x ∧ x ≤ IntKind.u8.max)
    (z : List Int) (cz : Nat) (hcz : z.length ≤ cz ∧ cz ≤ 9223372036854775807) (hxz : ∀ x ∈ z, IntKind.u8.min ≤ x ∧ x ≤ IntKind.u8.max) :
    CallA Try.prog 4 [.sl 0 0 0 b.length c, .sl 1 0 0 z.length cz] [.one false 0 (.ints .u8 b c), .one false 0 (.ints .u8 z cz)] (fun r _ => r = .bo true) (fun _ _ => False) := by
  have hu : ∀ x ∈ b, 0 ≤ x ∧ x < 256 := by
    intro x hxl
    have h1 : 0 ≤ x := (hx x hxl).1
    have h2 : x ≤ 255 := (hx x hxl).2
    omega
  have huz : ∀ x ∈ z, 0 ≤ x ∧ x < 256 := by
    intro x hxl
    have h1 : 0 ≤ x := (hxz x hxl).1
    have h2 : x ≤ 255 := (hxz x hxl).2
    omega
  refine CallA.post_asB ?_
  refine step4 (fun _ => []) [] rfl ?_
  repeat ((conv => whnf); first | with_reducible refine O_step ?_ | with_reducible refine S_step ?_ | with_reducible refine D_step ?_ | with_reducible refine RO.exit ?_ | with_reducible refine RO.ret ?_ | ((with_reducible refine And.intro ?sc ?_); case sc => exact side) | ((with_reducible refine br_f ?sc ?_); case sc => exact sideB) | ((with_reducible refine br_t ?sc ?_); case sc => exact sideB))
  refine And.intro (fun h1 => ?_) (fun h1 => ?_)
  · repeat ((conv => whnf); first | with_reducible refine O_step ?_ | with_reducible refine S_step ?_ | with_reducible refine D_step ?_ | with_reducible refine RO.exit ?_ | with_reducible refine RO.ret ?_ | ((with_reducible refine And.intro ?sc ?_); case sc => exact side) | ((with_reducible refine br_f ?sc ?_); case sc => exact sideB) | ((with_reducible refine br_t ?sc ?_); case sc => exact sideB))
    exact ⟨true, rfl, rfl⟩
  have h1' : b.length ≤ 500 := by have := of_decide_eq_false h1; omega
  repeat ((conv => whnf); first | with_reducible refine O_step ?_ | with_reducible refine S_step ?_ | with_reducible refine D_step ?_ | with_reducible refine RO.exit ?_ | with_reducible refine RO.ret ?_ | ((with_reducible refine And.intro ?sc ?_); case sc => exact side) | ((with_reducible refine br_f ?sc ?_); case sc => exact sideB) | ((with_reducible refine br_t ?sc ?_); case sc => exact sideB))
  refine And.intro (fun h2 => ?_) (fun h2 => ?_)
  · repeat ((conv => whnf); first | with_reducible refine O_step ?_ | with_reducible refine S_step ?_ | with_reducible refine D_step ?_ | with_reducible refine RO.exit ?_ | with_reducible refine RO.ret ?_ | ((with_reducible refine And.intro ?sc ?_); case sc => exact side) | ((with_reducible refine br_f ?sc ?_); case sc => exact sideB) | ((with_reducible refine br_t ?sc ?_); case sc => exact sideB))
    exact ⟨true, rfl, rfl⟩
  have h2' : z.length ≤ 2000 := by have := of_decide_eq_false h2; omega
  repeat ((conv => whnf); first | with_reducible refine O_step ?_ | with_reducible refine S_step ?_ | with_reducible refine D_step ?_ | with_reducible refine RO.exit ?_ | with_reducible refine RO.ret ?_ | ((with_reducible refine And.intro ?sc ?_); case sc => exact side) | ((with_reducible refine br_f ?sc ?_); case sc => exact sideB) | ((with_reducible refine br_t ?sc ?_); case sc => exact sideB))
  refine inflate_at (i := 0) (xs := b) (limit := 5000) rfl rfl hc.1 (by omega) hu (by decide) (fun h => absurd h (by decide)) (fun g1 c1 s _ _ e1 ok1 hb1 => ?_) (fun e _ _ e1 => ?_)
  · have e1' : infR b 5000 = .ok ((), s) := e1
    obtain ⟨hp1, hp2⟩ := infR_ok e1'
    have e2 := infR_ahead e1' h1' h2' huz (lim' := 7000) (by omega)
    have e3 : shrF .i64 (z.length : Int) 8 = (z.length : Int) / 256 := shr64_8 (by omega)
    have e4 : ((z.length : Int)).tmod 256 = (z.length : Int) % 256 := by rw [Int.tmod_eq_emod_of_nonneg (by omega)]
    have hal := ok1.al
    have hL : ([0, (z.length : Int) % 256, shrF .i64 (z.length : Int) 8 % 256, (255 - ((z.length : Int)).tmod 256) % 256, (255 - shrF .i64 (z.length : Int) 8) % 256] : List Int) = [0, (z.length : Int) % 256, (z.length : Int) / 256, 255 - (z.length : Int) % 256, 255 - (z.length : Int) / 256] := by
      rw [e3, e4, show (z.length : Int) / 256 % 256 = (z.length : Int) / 256 by omega, show (255 - (z.length : Int) % 256) % 256 = 255 - (z.length : Int) % 256 by omega, show (255 - (z.length : Int) / 256) % 256 = 255 - (z.length : Int) / 256 by omega]
    have hX : [0, (z.length : Int) % 256, shrF .i64 (z.length : Int) 8 % 256, (255 - ((z.length : Int)).tmod 256) % 256, (255 - shrF .i64 (z.length : Int) 8) % 256] ++ z ++ b = [0, (z.length : Int) % 256, (z.length : Int) / 256, 255 - (z.length : Int) % 256, 255 - (z.length : Int) / 256] ++ z ++ b := by rw [hL]
    have hXl : ([0, (z.length : Int) % 256, shrF .i64 (z.length : Int) 8 % 256, (255 - ((z.length : Int)).tmod 256) % 256, (255 - shrF .i64 (z.length : Int) 8) % 256] ++ z ++ b).length = 5 + z.length + b.length := by
      rw [List.length_append, List.length_append]; rfl
    have hXu : ∀ x ∈ [0, (z.length : Int) % 256, shrF .i64 (z.length : Int) 8 % 256, (255 - ((z.length : Int)).tmod 256) % 256, (255 - shrF .i64 (z.length : Int) 8) % 256] ++ z ++ b, 0 ≤ x ∧ x < 256 := by
      intro x hx
      rw [hX] at hx
      rcases List.mem_append.1 hx with hx | hx
      · rcases List.mem_append.1 hx with hx | hx
        · simp only [List.mem_cons, List.not_mem_nil, or_false] at hx
          omega
        · exact huz x hx
      · exact hu x hx
    rw [← hX] at e2
    repeat ((conv => whnf); first | with_reducible refine O_step ?_ | with_reducible refine S_step ?_ | with_reducible refine D_step ?_ | with_reducible refine RO.exit ?_ | with_reducible refine RO.ret ?_ | ((with_reducible refine And.intro ?sc ?_); case sc => exact side) | ((with_reducible refine br_f ?sc ?_); case sc => exact sideB) | ((with_reducible refine br_t ?sc ?_); case sc => exact sideB))
    intro ys hys
    obtain rfl : z = ys := by rw [hys]; simp
    repeat ((conv => whnf); first | with_reducible refine O_step ?_ | with_reducible refine S_step ?_ | with_reducible refine D_step ?_ | with_reducible refine RO.exit ?_ | with_reducible refine RO.ret ?_ | ((with_reducible refine And.intro ?sc ?_); case sc => exact side) | ((with_reducible refine br_f ?sc ?_); case sc => exact sideB) | ((with_reducible refine br_t ?sc ?_); case sc => exact sideB))
    intro c2 hc2
    repeat ((conv => whnf); first | with_reducible refine O_step ?_ | with_reducible refine S_step ?_ | with_reducible refine D_step ?_ | with_reducible refine RO.exit ?_ | with_reducible refine RO.ret ?_ | ((with_reducible refine And.intro ?sc ?_); case sc => exact side) | ((with_reducible refine br_f ?sc ?_); case sc => exact sideB) | ((with_reducible refine br_t ?sc ?_); case sc => exact sideB))
    intro ys hys
    obtain rfl : b = ys := by rw [hys]; simp
    repeat ((conv => whnf); first | with_reducible refine O_step ?_ | with_reducible refine S_step ?_ | with_reducible refine D_step ?_ | with_reducible refine RO.exit ?_ | with_reducible refine RO.ret ?_ | ((with_reducible refine And.intro ?sc ?_); case sc => exact side) | ((with_reducible refine br_f ?sc ?_); case sc => exact sideB) | ((with_reducible refine br_t ?sc ?_); case sc => exact sideB))
    intro c3 hc3
    repeat ((conv => whnf); first | with_reducible refine O_step ?_ | with_reducible refine S_step ?_ | with_reducible refine D_step ?_ | with_reducible refine RO.exit ?_ | with_reducible refine RO.ret ?_ | ((with_reducible refine And.intro ?sc ?_); case sc => exact side) | ((with_reducible refine br_f ?sc ?_); case sc => exact sideB) | ((with_reducible refine br_t ?sc ?_); case sc => exact sideB))
    refine inflate_at (i := 3) (limit := 7000) rfl ?_ ?_ ?_ hXu (by decide) (fun h => absurd h (by decide)) (fun g3 c5 s3 _ _ e6 ok3 hb3 => ?_) (fun e' _ _ e6 => ?_)
    · rw [hXl]
    · rw [hXl]; exact hc3
    · rw [hXl]; omega
    · have e7 : infR _ 7000 = .ok ((), s3) := e6
      rw [e2] at e7
      obtain rfl : (⟨8 * (z.length + 5) + s.a, z ++ s.out⟩ : DS) = s3 := by injection e7 with e7; injection e7
      have en : (((8 * (z.length + 5) + s.a + 7) / 8 : Nat) : Int) = (((s.a + 7) / 8 : Nat) : Int) + (z.length : Int) + 5 := by omega
      have hss : ((bytesStr (z ++ s.out)).toList == (bytesStr z ++ bytesStr s.out).toList) = true := by rw [bytesStr_append]; simp
      have hs1 := bytesStr_size z
      have hs2 := bytesStr_size s.out
      repeat ((conv => whnf); first | with_reducible refine O_step ?_ | with_reducible refine S_step ?_ | with_reducible refine D_step ?_ | with_reducible refine RO.exit ?_ | with_reducible refine RO.ret ?_ | ((with_reducible refine And.intro ?sc ?_); case sc => exact side) | ((with_reducible refine br_f ?sc ?_); case sc => exact sideB) | ((with_reducible refine br_t ?sc ?_); case sc => exact sideB))
      refine br_t (decide_eq_true en) ?_
      repeat ((conv => whnf); first | with_reducible refine O_step ?_ | with_reducible refine S_step ?_ | with_reducible refine D_step ?_ | with_reducible refine RO.exit ?_ | with_reducible refine RO.ret ?_ | ((with_reducible refine And.intro ?sc ?_); case sc => exact side) | ((with_reducible refine br_f ?sc ?_); case sc => exact sideB) | ((with_reducible refine br_t ?sc ?_); case sc => exact sideB))
      intro ys hys
      obtain rfl : z ++ s.out = ys := by rw [hys]; show _ = List.take (z ++ s.out).length (List.drop 0 (z ++ s.out)); rw [List.drop_zero, List.take_length]
      repeat ((conv => whnf); first | with_reducible refine O_step ?_ | with_reducible refine S_step ?_ | with_reducible refine D_step ?_ | with_reducible refine RO.exit ?_ | with_reducible refine RO.ret ?_ | ((with_reducible refine And.intro ?sc ?_); case sc => exact side) | ((with_reducible refine br_f ?sc ?_); case sc => exact sideB) | ((with_reducible refine br_t ?sc ?_); case sc => exact sideB))
      intro ys hys
      obtain rfl : z = ys := by rw [hys]; simp
      repeat ((conv => whnf); first | with_reducible refine O_step ?_ | with_reducible refine S_step ?_ | with_reducible refine D_step ?_ | with_reducible refine RO.exit ?_ | with_reducible refine RO.ret ?_ | ((with_reducible refine And.intro ?sc ?_); case sc => exact side) | ((with_reducible refine br_f ?sc ?_); case sc => exact sideB) | ((with_reducible refine br_t ?sc ?_); case sc => exact sideB))
      intro ys hys
      obtain rfl : s.out = ys := by rw [hys]; simp
      repeat ((conv => whnf); first | with_reducible refine O_step ?_ | with_reducible refine S_step ?_ | with_reducible refine D_step ?_ | with_reducible refine RO.exit ?_ | with_reducible refine RO.ret ?_ | ((with_reducible refine And.intro ?sc ?_); case sc => exact side) | ((with_reducible refine br_f ?sc ?_); case sc => exact sideB) | ((with_reducible refine br_t ?sc ?_); case sc => exact sideB))
      refine br_t hss ?_
      repeat ((conv => whnf); first | with_reducible refine O_step ?_ | with_reducible refine S_step ?_ | with_reducible refine D_step ?_ | with_reducible refine RO.exit ?_ | with_reducible refine RO.ret ?_ | ((with_reducible refine And.intro ?sc ?_); case sc => exact side) | ((with_reducible refine br_f ?sc ?_); case sc => exact sideB) | ((with_reducible refine br_t ?sc ?_); case sc => exact sideB))
      refine reads_at ?_
      repeat ((conv => whnf); first | with_reducible refine O_step ?_ | with_reducible refine S_step ?_ | with_reducible refine D_step ?_ | with_reducible refine RO.exit ?_ | with_reducible refine RO.ret ?_ | ((with_reducible refine And.intro ?sc ?_); case sc => exact side) | ((with_reducible refine br_f ?sc ?_); case sc => exact sideB) | ((with_reducible refine br_t ?sc ?_); case sc => exact sideB))
      exact ⟨true, rfl, rfl⟩
    · have e7 : infR _ 7000 = .error e' := e6
      rw [e2] at e7
      cases e7
  · have hz := infR_nz e1
    repeat ((conv => whnf); first | with_reducible refine O_step ?_ | with_reducible refine S_step ?_ | with_reducible refine D_step ?_ | with_reducible refine RO.exit ?_ | with_reducible refine RO.ret ?_ | ((with_reducible refine And.intro ?sc ?_); case sc => exact side) | ((with_reducible refine br_f ?sc ?_); case sc => exact sideB) | ((with_reducible refine br_t ?sc ?_); case sc => exact sideB))
    refine br_t (by simpa using hz) ?_
    repeat ((conv => whnf); first | with_reducible refine O_step ?_ | with_reducible refine S_step ?_ | with_reducible refine D_step ?_ | with_reducible refine RO.exit ?_ | with_reducible refine RO.ret ?_ | ((with_reducible refine And.intro ?sc ?_); case sc => exact side) | ((with_reducible refine br_f ?sc ?_); case sc => exact sideB) | ((with_reducible refine br_t ?sc ?_); case sc => exact sideB))
    refine reads_at ?_
    repeat ((conv => whnf); first | with_reducible refine O_step ?_ | with_reducible refine S_step ?_ | with_reducible refine D_step ?_ | with_reducible refine RO.exit ?_ | with_reducible refine RO.ret ?_ | ((with_reducible refine And.intro ?sc ?_); case sc => exact side) | ((with_reducible refine br_f ?sc ?_); case sc => exact sideB) | ((with_reducible refine br_t ?sc ?_); case sc => exact sideB))
    exact ⟨true, rfl, rfl⟩
end Go.Proofs.Yteinenklppbjkaa
