/- Layer 8: a stored block. -/
import Derived.Test.YteinenklppbjkaaZ4

set_option linter.unusedVariables false

set_option linter.unusedSimpArgs false

open Go.RowKit

namespace Go.Proofs.Yteinenklppbjkaa

set_option maxRecDepth 10000

theorem xor16 {n m : Nat} (hn : n < 65536) (hm : m < 65536) : bitF .xor .i64 (n : Int) (m : Int) = 65535 ↔ n + m = 65535 := by
  have h1 : (BitVec.ofInt 64 (n : Int) ^^^ BitVec.ofInt 64 (m : Int)).toNat = n ^^^ m := by
    rw [BitVec.toNat_xor, BitVec.ofInt_natCast, BitVec.ofInt_natCast, BitVec.toNat_ofNat, BitVec.toNat_ofNat, Nat.mod_eq_of_lt (by omega), Nat.mod_eq_of_lt (by omega)]
  have h2 : n ^^^ m < 2 ^ 16 := Nat.xor_lt_two_pow (n := 16) hn hm
  have h3 : bitF .xor .i64 (n : Int) (m : Int) = ((n ^^^ m : Nat) : Int) := by
    show IntKind.i64.wrap ((BitVec.ofInt 64 (n : Int) ^^^ BitVec.ofInt 64 (m : Int)).toNat : Int) = _
    rw [h1, wrap64_nat (by omega)]
  have h4 : ∀ n : Nat, n < 65536 → n ^^^ 65535 = 65535 - n := by
    intro n hn
    have := congrArg BitVec.toNat (BitVec.xor_allOnes (x := BitVec.ofNat 16 n))
    rw [BitVec.toNat_xor, BitVec.toNat_not, BitVec.toNat_ofNat, BitVec.toNat_allOnes, Nat.mod_eq_of_lt hn] at this
    exact this
  rw [h3]
  constructor
  · intro h
    have h' : n ^^^ m = 65535 := by omega
    have h5 : m = n ^^^ 65535 := by rw [← h', ← Nat.xor_assoc, Nat.xor_self, Nat.zero_xor]
    rw [h4 n hn] at h5
    omega
  · intro h
    have h5 : m = n ^^^ 65535 := by rw [h4 n hn]; omega
    rw [h5, ← Nat.xor_assoc, Nat.xor_self, Nat.zero_xor]
    rfl
/-- A stored block. -/
def pRaw : Nat → DP Unit
  | 0 => .ret ()
  | n + 1 => .get 8 fun v => .come v (pRaw n)
def pStored : DP Unit := .align (.get 16 fun n => .get 16 fun m => if n + m = 65535 then .room n (pRaw n.toNat) else .fail 80)
section

variable {K Kp : AV → AH → Prop} {xs : List Int} {lim gb cb g c : Nat} {s : DS}

theorem num16 (l : List Bool) (n : Nat) (hn : n ≤ 16) : ∃ k : Nat, num (l.take n) = k ∧ k < 2 ^ n := by
  obtain ⟨k, hk⟩ := Int.eq_ofNat_of_zero_le (num_nonneg (l.take n))
  refine ⟨k, hk, ?_⟩
  have h1 : (2 : Int) ^ (l.take n).length ≤ 2 ^ n := by exact_mod_cast Nat.pow_le_pow_right (by omega) (show (l.take n).length ≤ n by rw [List.length_take]; omega)
  have h2 := num_lt (l.take n)
  have h3 : ((2 ^ n : Nat) : Int) = 2 ^ n := by push_cast; rfl
  omega
/-- As number_at, told of a tree. -/
theorem number_d (E : AH) {n : Nat} {α : Type} {k : Int → DP α} {R : Except Int (α × DS)} (hR : (DP.get n k).run (unpack xs) lim s = R) (ok : ZOk xs lim c s) (hn : n ≤ 16)
    (h0 : ∀ (v : Nat) s', v < 2 ^ n → s'.out = s.out → s'.a = s.a + n → ZOk xs lim c s' → (k v).run (unpack xs) lim s' = R → K (.int .i64 (v : Int)) (zH lim gb cb xs g c s' ++ E))
    (h1 : R = .error 50 → Kp (faultV 50) (zH lim gb cb xs g c s ++ E)) :
    CallA Try.prog 19 [.ptr 0 0 0, .int .i64 (n : Int)] (zH lim gb cb xs g c s ++ E) K Kp := by
  have hul := unpack_length xs
  simp only [DP.run] at hR
  refine number_at E ok hn (fun h => ?_) (fun h => ?_)
  · rw [if_pos h] at hR
    obtain ⟨v, hv, hv2⟩ := num16 ((unpack xs).drop s.a) n hn
    rw [hv] at hR ⊢
    exact h0 v _ hv2 rfl rfl ⟨ok.xl, ok.xb, by show s.a + n ≤ _; omega, ok.ll, ok.ol, ok.oc⟩ hR
  · rw [if_neg h] at hR
    exact h1 hR.symm
theorem come_d (E : AH) {v : Int} {α : Type} {k : DP α} {R : Except Int (α × DS)} (hR : (DP.come v k).run (unpack xs) lim s = R) (ok : ZOk xs lim c s) (hb : ∀ x ∈ s.out, 0 ≤ x ∧ x < 256) (hv : 0 ≤ v ∧ v < 256)
    (h0 : ∀ g' c' s', s'.out = s.out ++ [v] → s'.a = s.a → (∀ x ∈ s'.out, 0 ≤ x ∧ x < 256) → ZOk xs lim c' s' → k.run (unpack xs) lim s' = R → K (.tup []) (zH lim gb cb xs g' c' s' ++ E))
    (h1 : R = .error 81 → Kp (faultV 81) (zH lim gb cb xs g c s ++ E)) :
    CallA Try.prog 32 [.ptr 0 0 0, .int .u8 v] (zH lim gb cb xs g c s ++ E) K Kp := by
  simp only [DP.run] at hR
  refine come_at E ok hv (fun g' c' h ok' => ?_) (fun h => ?_)
  · rw [if_neg h] at hR
    refine h0 g' c' _ rfl rfl (fun x hx => ?_) ok' hR
    rcases List.mem_append.1 hx with hx | hx
    · exact hb x hx
    · rw [List.mem_singleton.1 hx]; exact hv
  · rw [if_pos h] at hR
    exact h1 hR.symm
theorem stored_call (ok : ZOk xs lim c s) (hb : ∀ x ∈ s.out, 0 ≤ x ∧ x < 256) {R : Except Int (Unit × DS)} (hR : pStored.run (unpack xs) lim s = R)
    (h0 : ∀ g' c' s', R = .ok ((), s') → ZOk xs lim c' s' → (∀ x ∈ s'.out, 0 ≤ x ∧ x < 256) → K (.tup []) (zH lim gb cb xs g' c' s'))
    (h1 : ∀ e g' c' s', R = .error e → Kp (faultV e) (zH lim gb cb xs g' c' s')) :
    CallA Try.prog 15 [.ptr 0 0 0] (zH lim gb cb xs g c s) K Kp := by
  have hul := unpack_length xs
  have hxl := ok.xl
  have hal := ok.al
  have hol := ok.ol
  have hll := ok.ll
  unfold pStored at hR
  rw [DP.run] at hR
  obtain ⟨s1, hs1⟩ : ∃ s1 : DS, { s with a := (s.a + 7) / 8 * 8 } = s1 := ⟨_, rfl⟩
  have hs1a : s1.a = (s.a + 7) / 8 * 8 := by rw [← hs1]
  have hs1o : s1.out = s.out := by rw [← hs1]
  have ok1 : ZOk xs lim c s1 := by rw [← hs1]; exact ⟨ok.xl, ok.xb, by show (s.a + 7) / 8 * 8 ≤ _; omega, ok.ll, ok.ol, ok.oc⟩
  rw [hs1] at hR
  refine step15 (fun _ => [0]) [] rfl ?_
  repeat ((conv => whnf); first | with_reducible refine O_step ?_ | with_reducible refine S_step ?_ | with_reducible refine D_step ?_ | with_reducible refine RO.exit ?_ | with_reducible refine RO.ret ?_ | ((with_reducible refine And.intro ?sc ?_); case sc => exact side) | ((with_reducible refine br_f ?sc ?_); case sc => exact sideB) | ((with_reducible refine br_t ?sc ?_); case sc => exact sideB))
  refine ralign_at (i := 1) (j := 2) (xs := xs) (a := s.a) rfl rfl rfl (by omega) ok.al ?_
  rw [← hs1a, ← hs1o]
  repeat ((conv => whnf); first | with_reducible refine O_step ?_ | with_reducible refine S_step ?_ | with_reducible refine D_step ?_ | with_reducible refine RO.exit ?_ | with_reducible refine RO.ret ?_ | ((with_reducible refine And.intro ?sc ?_); case sc => exact side) | ((with_reducible refine br_f ?sc ?_); case sc => exact sideB) | ((with_reducible refine br_t ?sc ?_); case sc => exact sideB))
  refine number_d [] (n := 16) hR ok1 (by omega) (fun n s2 hn ho2 ha2 ok2 hR => ?_) (fun h => h1 50 _ _ _ h)
  repeat ((conv => whnf); first | with_reducible refine O_step ?_ | with_reducible refine S_step ?_ | with_reducible refine D_step ?_ | with_reducible refine RO.exit ?_ | with_reducible refine RO.ret ?_ | ((with_reducible refine And.intro ?sc ?_); case sc => exact side) | ((with_reducible refine br_f ?sc ?_); case sc => exact sideB) | ((with_reducible refine br_t ?sc ?_); case sc => exact sideB))
  refine number_d [] (n := 16) hR ok2 (by omega) (fun m s3 hm ho3 ha3 ok3 hR => ?_) (fun h => h1 50 _ _ _ h)
  have hx := xor16 hn hm
  repeat ((conv => whnf); first | with_reducible refine O_step ?_ | with_reducible refine S_step ?_ | with_reducible refine D_step ?_ | with_reducible refine RO.exit ?_ | with_reducible refine RO.ret ?_ | ((with_reducible refine And.intro ?sc ?_); case sc => exact side) | ((with_reducible refine br_f ?sc ?_); case sc => exact sideB) | ((with_reducible refine br_t ?sc ?_); case sc => exact sideB))
  refine And.intro (fun hc => ?_) (fun hc => ?_)
  · have hne : ¬ n + m = 65535 := fun e => by rw [hx.2 e] at hc; simp at hc
    rw [if_neg (by omega)] at hR
    repeat ((conv => whnf); first | with_reducible refine O_step ?_ | with_reducible refine S_step ?_ | with_reducible refine D_step ?_ | with_reducible refine RO.exit ?_ | with_reducible refine RO.ret ?_ | ((with_reducible refine And.intro ?sc ?_); case sc => exact side) | ((with_reducible refine br_f ?sc ?_); case sc => exact sideB) | ((with_reducible refine br_t ?sc ?_); case sc => exact sideB))
    refine must_at (fun h => absurd h (by decide)) (fun _ => ?_)
    exact h1 80 _ _ _ hR.symm
  have he : n + m = 65535 := by
    refine hx.1 ?_
    simpa using hc
  rw [if_pos (by omega), Int.toNat_natCast] at hR
  have hol3 := ok3.ol
  rw [DP.run] at hR
  repeat ((conv => whnf); first | with_reducible refine O_step ?_ | with_reducible refine S_step ?_ | with_reducible refine D_step ?_ | with_reducible refine RO.exit ?_ | with_reducible refine RO.ret ?_ | ((with_reducible refine And.intro ?sc ?_); case sc => exact side) | ((with_reducible refine br_f ?sc ?_); case sc => exact sideB) | ((with_reducible refine br_t ?sc ?_); case sc => exact sideB))
  refine And.intro (fun hc => ?_) (fun hc => ?_)
  · have hg : (lim : Int) - s3.out.length < n := by simpa using hc
    rw [if_pos hg] at hR
    repeat ((conv => whnf); first | with_reducible refine O_step ?_ | with_reducible refine S_step ?_ | with_reducible refine D_step ?_ | with_reducible refine RO.exit ?_ | with_reducible refine RO.ret ?_ | ((with_reducible refine And.intro ?sc ?_); case sc => exact side) | ((with_reducible refine br_f ?sc ?_); case sc => exact sideB) | ((with_reducible refine br_t ?sc ?_); case sc => exact sideB))
    refine must_at (fun h => absurd h (by decide)) (fun _ => ?_)
    exact h1 81 _ _ _ hR.symm
  have hg : ¬ (lim : Int) - s3.out.length < n := by simpa using hc
  rw [if_neg hg] at hR
  have hb3 : ∀ x ∈ s3.out, 0 ≤ x ∧ x < 256 := by rw [ho3, ho2, hs1o]; exact hb
  repeat ((conv => whnf); first | with_reducible refine O_step ?_ | with_reducible refine S_step ?_ | with_reducible refine D_step ?_ | with_reducible refine RO.exit ?_ | with_reducible refine RO.ret ?_ | ((with_reducible refine And.intro ?sc ?_); case sc => exact side) | ((with_reducible refine br_f ?sc ?_); case sc => exact sideB) | ((with_reducible refine br_t ?sc ?_); case sc => exact sideB))
  refine WO.go (σ := Nat × Nat × Nat × DS) (fun (j, g, c, s) => ZOk xs lim c s ∧ (∀ x ∈ s.out, 0 ≤ x ∧ x < 256) ∧ j ≤ n ∧ (pRaw (n - j)).run (unpack xs) lim s = R) (fun (j, _) => n - j)
    (fun (j, _) => [(0, .ptr 0 0 0), (33, .int .i64 (n : Int)), (34, .int .i64 (j : Int))]) (fun (j, g, c, s) => zH lim gb cb xs g c s) (0, g, c, s3) tb_ok mixed (by kernel_rfl) ⟨ok3, hb3, Nat.zero_le _, hR⟩ (And.intro rfl (And.intro rfl (And.intro rfl (trivial)))) (And.intro rfl (And.intro rfl (And.intro rfl (And.intro rfl (trivial))))) (fun _ => rfl) (fun _ => rfl) (fun _ => zH_nb) ?_
  rintro ⟨j, g, c, s4⟩ ⟨ok4, hb4, hj, hR⟩ d0
  repeat ((conv => whnf); first | with_reducible refine O_step ?_ | with_reducible refine S_step ?_ | with_reducible refine D_step ?_ | with_reducible refine RO.exit ?_ | with_reducible refine RO.ret ?_ | ((with_reducible refine And.intro ?sc ?_); case sc => exact side) | ((with_reducible refine br_f ?sc ?_); case sc => exact sideB) | ((with_reducible refine br_t ?sc ?_); case sc => exact sideB))
  refine And.intro (fun hc => ?_) (fun hc => ?_)
  · have hjn : j < n := by simp only [decide_eq_true_eq] at hc; omega
    rw [show n - j = n - (j + 1) + 1 by omega, pRaw] at hR
    repeat ((conv => whnf); first | with_reducible refine O_step ?_ | with_reducible refine S_step ?_ | with_reducible refine D_step ?_ | with_reducible refine RO.exit ?_ | with_reducible refine RO.ret ?_ | ((with_reducible refine And.intro ?sc ?_); case sc => exact side) | ((with_reducible refine br_f ?sc ?_); case sc => exact sideB) | ((with_reducible refine br_t ?sc ?_); case sc => exact sideB))
    refine number_d [] (n := 8) hR ok4 (by omega) (fun v s5 hv ho5 ha5 ok5 hR => ?_) (fun h => h1 50 _ _ _ h)
    have hv2 : (v : Int) % 256 = v := by omega
    repeat ((conv => whnf); first | with_reducible refine O_step ?_ | with_reducible refine S_step ?_ | with_reducible refine D_step ?_ | with_reducible refine RO.exit ?_ | with_reducible refine RO.ret ?_ | ((with_reducible refine And.intro ?sc ?_); case sc => exact side) | ((with_reducible refine br_f ?sc ?_); case sc => exact sideB) | ((with_reducible refine br_t ?sc ?_); case sc => exact sideB))
    rw [hv2]
    refine come_d [] hR ok5 (by rw [ho5]; exact hb4) (by omega) (fun g6 c6 s6 ho6 ha6 hb6 ok6 hR => ?_) (fun h => h1 81 _ _ _ h)
    repeat ((conv => whnf); first | with_reducible refine O_step ?_ | with_reducible refine S_step ?_ | with_reducible refine D_step ?_ | with_reducible refine RO.exit ?_ | with_reducible refine RO.ret ?_ | ((with_reducible refine And.intro ?sc ?_); case sc => exact side) | ((with_reducible refine br_f ?sc ?_); case sc => exact sideB) | ((with_reducible refine br_t ?sc ?_); case sc => exact sideB))
    refine RO.same (j + 1, g6, c6, s6) ⟨ok6, hb6, hjn, hR⟩ (show n - (j + 1) < n - j by omega) (And.intro rfl (And.intro rfl (And.intro rfl (trivial)))) (And.intro rfl (And.intro rfl (And.intro rfl (And.intro rfl (trivial)))))
  · obtain rfl : j = n := by simp only [decide_eq_false_iff_not] at hc; omega
    rw [Nat.sub_self, pRaw, DP.run] at hR
    have hK := h0 g c s4 hR.symm ok4 hb4
    repeat ((conv => whnf); first | with_reducible refine O_step ?_ | with_reducible refine S_step ?_ | with_reducible refine D_step ?_ | with_reducible refine RO.exit ?_ | with_reducible refine RO.ret ?_ | ((with_reducible refine And.intro ?sc ?_); case sc => exact side) | ((with_reducible refine br_f ?sc ?_); case sc => exact sideB) | ((with_reducible refine br_t ?sc ?_); case sc => exact sideB))
    exact hK
end

end Go.Proofs.Yteinenklppbjkaa
