/- Layer 8: Inflate, whole. -/
import Derived.Test.YteinenklppbjkaaZ9

set_option linter.unusedVariables false

set_option linter.unusedSimpArgs false

open Go.RowKit

namespace Go.Proofs.Yteinenklppbjkaa

set_option maxRecDepth 10000

section

variable {K Kp : AV → AH → Prop} {xs : List Int}

theorem inflate_call {co n0 : Nat} {limit : Int} (hxl : xs.length ≤ 1000000) (hxb : ∀ x ∈ xs, 0 ≤ x ∧ x < 256) (hlim : limit < 9223372036854775808)
    (h1 : limit < 0 ∨ 524288 < limit → K (.tup [.ns, .int .i64 0, .int .i64 1]) [.one false 0 (.ints .u8 xs co)])
    (h2 : ∀ g c s, 0 ≤ limit → limit ≤ 524288 → (pInf FI).run (unpack xs) limit.toNat ⟨0, []⟩ = .ok ((), s) → ZOk xs limit.toNat c s → (∀ x ∈ s.out, 0 ≤ x ∧ x < 256) → K (.tup [.sl 1 g 0 s.out.length c, .int .i64 (((s.a + 7) / 8 : Nat) : Int), .int .i64 0]) [.one false 0 (.ints .u8 xs co), .one true g (.ints .u8 s.out c)])
    (h3 : ∀ e, 0 ≤ limit → limit ≤ 524288 → (pInf FI).run (unpack xs) limit.toNat ⟨0, []⟩ = .error e → K (.tup [.ns, .int .i64 0, .int .i64 e]) [.one false 0 (.ints .u8 xs co)]) :
    CallA Try.prog 7 [.sl 0 0 0 xs.length n0, .int .i64 limit] [.one false 0 (.ints .u8 xs co)] K Kp := by
  refine CallA.post_pick ?_
  refine CallA.deferI (x := cx7 (fun _ => [6]) []) tb_ok mixed Try.func7 (rfl : Try.f7.body = some body7) (by kernel_rfl) plans7 rfl rfl rfl 2 rfl (by kernel_rfl) rfl (by kernel_rfl) ?_
  repeat ((conv => whnf); first | with_reducible refine O_step ?_ | with_reducible refine S_step ?_ | with_reducible refine D_step ?_ | with_reducible refine RO.exit ?_ | with_reducible refine RO.ret ?_ | ((with_reducible refine And.intro ?sc ?_); case sc => exact side) | ((with_reducible refine br_f ?sc ?_); case sc => exact sideB) | ((with_reducible refine br_t ?sc ?_); case sc => exact sideB))
  refine And.intro (fun hA => ?_) (fun hA => ?_)
  · have hA' : limit < 0 := by simpa using hA
    repeat ((conv => whnf); first | with_reducible refine O_step ?_ | with_reducible refine S_step ?_ | with_reducible refine D_step ?_ | with_reducible refine RO.exit ?_ | with_reducible refine RO.ret ?_ | ((with_reducible refine And.intro ?sc ?_); case sc => exact side) | ((with_reducible refine br_f ?sc ?_); case sc => exact sideB) | ((with_reducible refine br_t ?sc ?_); case sc => exact sideB))
    exact ⟨_, _, _, pick_id (M := [.one false 0 (.ints .u8 xs co)]) (E := [_, _, _]) ⟨trivial, trivial⟩ (fun o ho => by rw [List.mem_singleton.1 ho]; rfl) rfl, h1 (.inl hA')⟩
  have hA' : ¬ limit < 0 := by simpa using hA
  repeat ((conv => whnf); first | with_reducible refine O_step ?_ | with_reducible refine S_step ?_ | with_reducible refine D_step ?_ | with_reducible refine RO.exit ?_ | with_reducible refine RO.ret ?_ | ((with_reducible refine And.intro ?sc ?_); case sc => exact side) | ((with_reducible refine br_f ?sc ?_); case sc => exact sideB) | ((with_reducible refine br_t ?sc ?_); case sc => exact sideB))
  refine And.intro (fun hB => ?_) (fun hB => ?_)
  · have hB' : 524288 < limit := by simpa using hB
    repeat ((conv => whnf); first | with_reducible refine O_step ?_ | with_reducible refine S_step ?_ | with_reducible refine D_step ?_ | with_reducible refine RO.exit ?_ | with_reducible refine RO.ret ?_ | ((with_reducible refine And.intro ?sc ?_); case sc => exact side) | ((with_reducible refine br_f ?sc ?_); case sc => exact sideB) | ((with_reducible refine br_t ?sc ?_); case sc => exact sideB))
    exact ⟨_, _, _, pick_id (M := [.one false 0 (.ints .u8 xs co)]) (E := [_, _, _]) ⟨trivial, trivial⟩ (fun o ho => by rw [List.mem_singleton.1 ho]; rfl) rfl, h1 (.inr hB')⟩
  have hB' : ¬ 524288 < limit := by simpa using hB
  obtain ⟨lim, rfl⟩ := Int.eq_ofNat_of_zero_le (show 0 ≤ limit by omega)
  rw [Int.toNat_natCast] at h2 h3
  have hll : lim ≤ 524288 := by omega
  have hul := unpack_length xs
  obtain ⟨R, hR⟩ : ∃ R, (pInf FI).run (unpack xs) lim ⟨0, []⟩ = R := ⟨_, rfl⟩
  rw [hR] at h2 h3
  repeat ((conv => whnf); first | with_reducible refine O_step ?_ | with_reducible refine S_step ?_ | with_reducible refine D_step ?_ | with_reducible refine RO.exit ?_ | with_reducible refine RO.ret ?_ | ((with_reducible refine And.intro ?sc ?_); case sc => exact side) | ((with_reducible refine br_f ?sc ?_); case sc => exact sideB) | ((with_reducible refine br_t ?sc ?_); case sc => exact sideB))
  refine new_at (i := 0) (xs := xs) rfl rfl (by omega) fun gb cb hcb => ?_
  repeat ((conv => whnf); first | with_reducible refine O_step ?_ | with_reducible refine S_step ?_ | with_reducible refine D_step ?_ | with_reducible refine RO.exit ?_ | with_reducible refine RO.ret ?_ | ((with_reducible refine And.intro ?sc ?_); case sc => exact side) | ((with_reducible refine br_f ?sc ?_); case sc => exact sideB) | ((with_reducible refine br_t ?sc ?_); case sc => exact sideB))
  refine WO.gov (σ := Nat × Nat × Nat × DS × Int) (fun (f, g, c, s, last) => ZOk xs lim c s ∧ (∀ x ∈ s.out, 0 ≤ x ∧ x < 256) ∧ 8 * xs.length < f + s.a ∧ (if last = 0 then (pInf f).run (unpack xs) lim s else .ok ((), s)) = R) (fun (f, g, c, s, last) => 8 * xs.length - s.a)
    (fun (f, g, c, s, last) => [(4, .ptr 1 0 0), (5, .ptr 2 0 0), (6, .ptr 3 0 0), (7, .ptr 6 0 0), (8, .ptr 7 0 0), (9, .int .i64 last)]) (fun (f, g, c, s, last) => zI co lim gb cb xs .ns (.int .i64 0) (.int .i64 0) g c s) (FI, 0, 0, ⟨0, []⟩, 0) tb_ok mixed (by kernel_rfl)
    [(4, .ptr 1 0 0), (5, .ptr 2 0 0), (6, .ptr 3 0 0), (7, .ptr 6 0 0), (8, .ptr 7 0 0), (9, .int .i64 0)] _ ⟨⟨hxl, hxb, Nat.zero_le _, by omega, Nat.zero_le _, Nat.zero_le _⟩, fun x hx => (by cases hx), by show 8 * xs.length < FI + 0; unfold FI; omega, by rw [if_pos rfl]; exact hR⟩ (And.intro rfl (And.intro rfl (And.intro rfl (And.intro rfl (And.intro rfl (And.intro rfl (trivial))))))) rfl
    (Vw.ghost (i := 6) (k := 1) (x := .ints .u8 [] 0) rfl rfl ⟨rfl, rfl⟩) (And.intro rfl (And.intro rfl (And.intro rfl (And.intro rfl (And.intro rfl (And.intro rfl (And.intro rfl (And.intro rfl (And.intro rfl (trivial)))))))))) (fun _ => rfl) (fun _ => rfl) (fun _ => ?_) ?_
  · exact ⟨trivial, rfl, rfl, rfl, trivial, rfl, rfl, rfl, trivial, trivial⟩
  rintro ⟨f, g, c, s, last⟩ ⟨ok, hb, hf, hR⟩ d0
  repeat ((conv => whnf); first | with_reducible refine O_step ?_ | with_reducible refine S_step ?_ | with_reducible refine D_step ?_ | with_reducible refine RO.exit ?_ | with_reducible refine RO.ret ?_ | ((with_reducible refine And.intro ?sc ?_); case sc => exact side) | ((with_reducible refine br_f ?sc ?_); case sc => exact sideB) | ((with_reducible refine br_t ?sc ?_); case sc => exact sideB))
  refine And.intro (fun hc => ?_) (fun hc => ?_)
  · have he : last = 0 := by simpa using hc
    rw [if_pos he] at hR
    obtain ⟨f, rfl⟩ : ∃ f', f = f' + 1 := ⟨f - 1, by have := ok.al; omega⟩
    rw [pInf] at hR
    repeat ((conv => whnf); first | with_reducible refine O_step ?_ | with_reducible refine S_step ?_ | with_reducible refine D_step ?_ | with_reducible refine RO.exit ?_ | with_reducible refine RO.ret ?_ | ((with_reducible refine And.intro ?sc ?_); case sc => exact side) | ((with_reducible refine br_f ?sc ?_); case sc => exact sideB) | ((with_reducible refine br_t ?sc ?_); case sc => exact sideB))
    refine numberI (n := 1) hR ok (by omega) (fun v s1 hv ho1 ha1 ok1 hR => ?_) (fun h => ?_)
    · repeat ((conv => whnf); first | with_reducible refine O_step ?_ | with_reducible refine S_step ?_ | with_reducible refine D_step ?_ | with_reducible refine RO.exit ?_ | with_reducible refine RO.ret ?_ | ((with_reducible refine And.intro ?sc ?_); case sc => exact side) | ((with_reducible refine br_f ?sc ?_); case sc => exact sideB) | ((with_reducible refine br_t ?sc ?_); case sc => exact sideB))
      refine numberI (n := 2) hR ok1 (by omega) (fun k s2 hk ho2 ha2 ok2 hR => ?_) (fun h => ?_)
      · rw [DP.run_bind] at hR
        obtain ⟨R2, hR2⟩ : ∃ R2, (pBlock k).run (unpack xs) lim s2 = R2 := ⟨_, rfl⟩
        rw [hR2] at hR
        have hb2 : ∀ x ∈ s2.out, 0 ≤ x ∧ x < 256 := by rw [ho2, ho1]; exact hb
        have ha12 : s.a + 3 ≤ s2.a := by omega
        obtain rfl | rfl | rfl | rfl : k = 0 ∨ k = 1 ∨ k = 2 ∨ k = 3 := by omega
        ·
          repeat ((conv => whnf); first | with_reducible refine O_step ?_ | with_reducible refine S_step ?_ | with_reducible refine D_step ?_ | with_reducible refine RO.exit ?_ | with_reducible refine RO.ret ?_ | ((with_reducible refine And.intro ?sc ?_); case sc => exact side) | ((with_reducible refine br_f ?sc ?_); case sc => exact sideB) | ((with_reducible refine br_t ?sc ?_); case sc => exact sideB))
          refine blockI (k := 0) (.inl ⟨rfl, rfl⟩) hR2 ok2 hb2 (fun g3 c3 s3 e3 ok3 hb3 => ?_) (fun e g3 c3 s3 e3 => ?_)
          · have hmo : s2.a ≤ s3.a := by
              have := DP.run_len _ _ ok2.ol (hR2.trans e3)
              exact this.2.2
            rw [e3] at hR
            simp only at hR
            have hR' : (if (v : Int) = 0 then (pInf f).run (unpack xs) lim s3 else .ok ((), s3)) = R := by
              rw [← hR]; split <;> rfl
            repeat ((conv => whnf); first | with_reducible refine O_step ?_ | with_reducible refine S_step ?_ | with_reducible refine D_step ?_ | with_reducible refine RO.exit ?_ | with_reducible refine RO.ret ?_ | ((with_reducible refine And.intro ?sc ?_); case sc => exact side) | ((with_reducible refine br_f ?sc ?_); case sc => exact sideB) | ((with_reducible refine br_t ?sc ?_); case sc => exact sideB))
            refine RO.same (f, g3, c3, s3, (v : Int)) ⟨ok3, hb3, by omega, hR'⟩ (show 8 * xs.length - s3.a < 8 * xs.length - s.a by have := ok2.al; omega) (And.intro rfl (And.intro rfl (And.intro rfl (And.intro rfl (And.intro rfl (And.intro rfl (trivial))))))) (And.intro rfl (And.intro rfl (And.intro rfl (And.intro rfl (And.intro rfl (And.intro rfl (And.intro rfl (And.intro rfl (And.intro rfl (trivial))))))))))
          · rw [e3] at hR
            refine clos_some ?_
            conv => whnf
            refine And.intro rfl ?_
            conv => whnf
            refine And.intro rfl ?_
            conv => whnf
            refine And.intro rfl ?_
            conv => whnf
            exact ⟨_, _, _, pick_id (M := [.one false 0 (.ints .u8 xs co)]) (E := [_, _, _, _, _, _, _, _, _]) ⟨trivial, trivial⟩ (fun o ho => by rw [List.mem_singleton.1 ho]; rfl) rfl, h3 e (by omega) (by omega) hR.symm⟩
        ·
          repeat ((conv => whnf); first | with_reducible refine O_step ?_ | with_reducible refine S_step ?_ | with_reducible refine D_step ?_ | with_reducible refine RO.exit ?_ | with_reducible refine RO.ret ?_ | ((with_reducible refine And.intro ?sc ?_); case sc => exact side) | ((with_reducible refine br_f ?sc ?_); case sc => exact sideB) | ((with_reducible refine br_t ?sc ?_); case sc => exact sideB))
          refine blockI (k := 1) (.inr (.inl ⟨rfl, rfl⟩)) hR2 ok2 hb2 (fun g3 c3 s3 e3 ok3 hb3 => ?_) (fun e g3 c3 s3 e3 => ?_)
          · have hmo : s2.a ≤ s3.a := by
              have := DP.run_len _ _ ok2.ol (hR2.trans e3)
              exact this.2.2
            rw [e3] at hR
            simp only at hR
            have hR' : (if (v : Int) = 0 then (pInf f).run (unpack xs) lim s3 else .ok ((), s3)) = R := by
              rw [← hR]; split <;> rfl
            repeat ((conv => whnf); first | with_reducible refine O_step ?_ | with_reducible refine S_step ?_ | with_reducible refine D_step ?_ | with_reducible refine RO.exit ?_ | with_reducible refine RO.ret ?_ | ((with_reducible refine And.intro ?sc ?_); case sc => exact side) | ((with_reducible refine br_f ?sc ?_); case sc => exact sideB) | ((with_reducible refine br_t ?sc ?_); case sc => exact sideB))
            refine RO.same (f, g3, c3, s3, (v : Int)) ⟨ok3, hb3, by omega, hR'⟩ (show 8 * xs.length - s3.a < 8 * xs.length - s.a by have := ok2.al; omega) (And.intro rfl (And.intro rfl (And.intro rfl (And.intro rfl (And.intro rfl (And.intro rfl (trivial))))))) (And.intro rfl (And.intro rfl (And.intro rfl (And.intro rfl (And.intro rfl (And.intro rfl (And.intro rfl (And.intro rfl (And.intro rfl (trivial))))))))))
          · rw [e3] at hR
            refine clos_some ?_
            conv => whnf
            refine And.intro rfl ?_
            conv => whnf
            refine And.intro rfl ?_
            conv => whnf
            refine And.intro rfl ?_
            conv => whnf
            exact ⟨_, _, _, pick_id (M := [.one false 0 (.ints .u8 xs co)]) (E := [_, _, _, _, _, _, _, _, _]) ⟨trivial, trivial⟩ (fun o ho => by rw [List.mem_singleton.1 ho]; rfl) rfl, h3 e (by omega) (by omega) hR.symm⟩
        ·
          repeat ((conv => whnf); first | with_reducible refine O_step ?_ | with_reducible refine S_step ?_ | with_reducible refine D_step ?_ | with_reducible refine RO.exit ?_ | with_reducible refine RO.ret ?_ | ((with_reducible refine And.intro ?sc ?_); case sc => exact side) | ((with_reducible refine br_f ?sc ?_); case sc => exact sideB) | ((with_reducible refine br_t ?sc ?_); case sc => exact sideB))
          refine blockI (k := 2) (.inr (.inr (.inl ⟨rfl, rfl⟩))) hR2 ok2 hb2 (fun g3 c3 s3 e3 ok3 hb3 => ?_) (fun e g3 c3 s3 e3 => ?_)
          · have hmo : s2.a ≤ s3.a := by
              have := DP.run_len _ _ ok2.ol (hR2.trans e3)
              exact this.2.2
            rw [e3] at hR
            simp only at hR
            have hR' : (if (v : Int) = 0 then (pInf f).run (unpack xs) lim s3 else .ok ((), s3)) = R := by
              rw [← hR]; split <;> rfl
            repeat ((conv => whnf); first | with_reducible refine O_step ?_ | with_reducible refine S_step ?_ | with_reducible refine D_step ?_ | with_reducible refine RO.exit ?_ | with_reducible refine RO.ret ?_ | ((with_reducible refine And.intro ?sc ?_); case sc => exact side) | ((with_reducible refine br_f ?sc ?_); case sc => exact sideB) | ((with_reducible refine br_t ?sc ?_); case sc => exact sideB))
            refine RO.same (f, g3, c3, s3, (v : Int)) ⟨ok3, hb3, by omega, hR'⟩ (show 8 * xs.length - s3.a < 8 * xs.length - s.a by have := ok2.al; omega) (And.intro rfl (And.intro rfl (And.intro rfl (And.intro rfl (And.intro rfl (And.intro rfl (trivial))))))) (And.intro rfl (And.intro rfl (And.intro rfl (And.intro rfl (And.intro rfl (And.intro rfl (And.intro rfl (And.intro rfl (And.intro rfl (trivial))))))))))
          · rw [e3] at hR
            refine clos_some ?_
            conv => whnf
            refine And.intro rfl ?_
            conv => whnf
            refine And.intro rfl ?_
            conv => whnf
            refine And.intro rfl ?_
            conv => whnf
            exact ⟨_, _, _, pick_id (M := [.one false 0 (.ints .u8 xs co)]) (E := [_, _, _, _, _, _, _, _, _]) ⟨trivial, trivial⟩ (fun o ho => by rw [List.mem_singleton.1 ho]; rfl) rfl, h3 e (by omega) (by omega) hR.symm⟩
        ·
          repeat ((conv => whnf); first | with_reducible refine O_step ?_ | with_reducible refine S_step ?_ | with_reducible refine D_step ?_ | with_reducible refine RO.exit ?_ | with_reducible refine RO.ret ?_ | ((with_reducible refine And.intro ?sc ?_); case sc => exact side) | ((with_reducible refine br_f ?sc ?_); case sc => exact sideB) | ((with_reducible refine br_t ?sc ?_); case sc => exact sideB))
          refine blockI (k := 3) (.inr (.inr (.inr ⟨rfl, rfl⟩))) hR2 ok2 hb2 (fun g3 c3 s3 e3 ok3 hb3 => ?_) (fun e g3 c3 s3 e3 => ?_)
          · have hmo : s2.a ≤ s3.a := by
              have := DP.run_len _ _ ok2.ol (hR2.trans e3)
              exact this.2.2
            rw [e3] at hR
            simp only at hR
            have hR' : (if (v : Int) = 0 then (pInf f).run (unpack xs) lim s3 else .ok ((), s3)) = R := by
              rw [← hR]; split <;> rfl
            repeat ((conv => whnf); first | with_reducible refine O_step ?_ | with_reducible refine S_step ?_ | with_reducible refine D_step ?_ | with_reducible refine RO.exit ?_ | with_reducible refine RO.ret ?_ | ((with_reducible refine And.intro ?sc ?_); case sc => exact side) | ((with_reducible refine br_f ?sc ?_); case sc => exact sideB) | ((with_reducible refine br_t ?sc ?_); case sc => exact sideB))
            refine RO.same (f, g3, c3, s3, (v : Int)) ⟨ok3, hb3, by omega, hR'⟩ (show 8 * xs.length - s3.a < 8 * xs.length - s.a by have := ok2.al; omega) (And.intro rfl (And.intro rfl (And.intro rfl (And.intro rfl (And.intro rfl (And.intro rfl (trivial))))))) (And.intro rfl (And.intro rfl (And.intro rfl (And.intro rfl (And.intro rfl (And.intro rfl (And.intro rfl (And.intro rfl (And.intro rfl (trivial))))))))))
          · rw [e3] at hR
            refine clos_some ?_
            conv => whnf
            refine And.intro rfl ?_
            conv => whnf
            refine And.intro rfl ?_
            conv => whnf
            refine And.intro rfl ?_
            conv => whnf
            exact ⟨_, _, _, pick_id (M := [.one false 0 (.ints .u8 xs co)]) (E := [_, _, _, _, _, _, _, _, _]) ⟨trivial, trivial⟩ (fun o ho => by rw [List.mem_singleton.1 ho]; rfl) rfl, h3 e (by omega) (by omega) hR.symm⟩
      ·
        refine clos_some ?_
        conv => whnf
        refine And.intro rfl ?_
        conv => whnf
        refine And.intro rfl ?_
        conv => whnf
        refine And.intro rfl ?_
        conv => whnf
        exact ⟨_, _, _, pick_id (M := [.one false 0 (.ints .u8 xs co)]) (E := [_, _, _, _, _, _, _, _, _]) ⟨trivial, trivial⟩ (fun o ho => by rw [List.mem_singleton.1 ho]; rfl) rfl, h3 50 (by omega) (by omega) h⟩
    ·
      refine clos_some ?_
      conv => whnf
      refine And.intro rfl ?_
      conv => whnf
      refine And.intro rfl ?_
      conv => whnf
      refine And.intro rfl ?_
      conv => whnf
      exact ⟨_, _, _, pick_id (M := [.one false 0 (.ints .u8 xs co)]) (E := [_, _, _, _, _, _, _, _, _]) ⟨trivial, trivial⟩ (fun o ho => by rw [List.mem_singleton.1 ho]; rfl) rfl, h3 50 (by omega) (by omega) h⟩
  · have he : ¬ last = 0 := by simpa using hc
    rw [if_neg he] at hR
    have hK := h2 g c s (by omega) (by omega) hR.symm ok hb
    have hal := ok.al
    have e8 : ((s.a : Int) + 7).tdiv 8 = (((s.a + 7) / 8 : Nat) : Int) := Int.ofNat_tdiv (s.a + 7) 8 |>.symm
    repeat ((conv => whnf); first | with_reducible refine O_step ?_ | with_reducible refine S_step ?_ | with_reducible refine D_step ?_ | with_reducible refine RO.exit ?_ | with_reducible refine RO.ret ?_ | ((with_reducible refine And.intro ?sc ?_); case sc => exact side) | ((with_reducible refine br_f ?sc ?_); case sc => exact sideB) | ((with_reducible refine br_t ?sc ?_); case sc => exact sideB))
    refine at_at (i := 5) (j := 4) (xs := xs) (a := s.a) rfl rfl rfl ?_
    repeat ((conv => whnf); first | with_reducible refine O_step ?_ | with_reducible refine S_step ?_ | with_reducible refine D_step ?_ | with_reducible refine RO.exit ?_ | with_reducible refine RO.ret ?_ | ((with_reducible refine And.intro ?sc ?_); case sc => exact side) | ((with_reducible refine br_f ?sc ?_); case sc => exact sideB) | ((with_reducible refine br_t ?sc ?_); case sc => exact sideB))
    rw [e8]
    repeat ((conv => whnf); first | with_reducible refine O_step ?_ | with_reducible refine S_step ?_ | with_reducible refine D_step ?_ | with_reducible refine RO.exit ?_ | with_reducible refine RO.ret ?_ | ((with_reducible refine And.intro ?sc ?_); case sc => exact side) | ((with_reducible refine br_f ?sc ?_); case sc => exact sideB) | ((with_reducible refine br_t ?sc ?_); case sc => exact sideB))
    refine clos_none ?_
    conv => whnf
    refine And.intro rfl ?_
    conv => whnf
    refine And.intro rfl ?_
    conv => whnf
    refine And.intro rfl ?_
    conv => whnf
    refine ⟨[.sha 0, .own 8], .tup [.sl 1 g 0 s.out.length c, .int .i64 (((s.a + 7) / 8 : Nat) : Int), .int .i64 0], [.one false 0 (.ints .u8 xs co), .one true g (.ints .u8 s.out c)], ⟨⟨⟨rfl, _, rfl, rfl⟩, ⟨rfl, rfl⟩, trivial⟩, rfl, ⟨trivial, trivial, trivial⟩, rfl, ?_⟩, hK⟩
    intro i hi
    match i, hi with
    | 0, _ => exact .inr rfl
end

end Go.Proofs.Yteinenklppbjkaa
