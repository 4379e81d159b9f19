/- Layer 23: sums and a body, when it reads. -/
import Derived.Test.YtedlpkibdjccdaaM8

import Derived.Test.YtedlpkibdjccdaaGb

set_option linter.unusedVariables false

set_option linter.unusedSimpArgs false

open Go.RowKit

namespace Go.Proofs.Ytedlpkibdjccdaa

set_option maxRecDepth 10000

/-- Behind i sums. -/
def stR (s : Bool × List Int) : Nat → Bool × List Int
  | 0 => s
  | i + 1 => (rdB 4 (stR s i).1 (stR s i).2, rdL 4 (stR s i).1 (stR s i).2)
def valR (s : Bool × List Int) (i : Nat) : Int := rdV 4 (stR s i).1 (stR s i).2
def sumR (s : Bool × List Int) (n : Nat) : List Int := (List.range n).map (valR s)
/-- Behind the number of sums. -/
def numS (bad : Bool) (l : List Int) : Bool × List Int := (rdB 2 bad l || !decide (rdV 2 bad l ≤ 256), rdL 2 bad l)
theorem sumR_set (s : Bool × List Int) {i n : Nat} (h : i < n) : ((sumR s i) ++ List.replicate (n - i) 0).set i (valR s i) = sumR s (i + 1) ++ List.replicate (n - (i + 1)) 0 := by
  have hl : (sumR s i).length = i := by simp [sumR]
  rw [List.set_append_right _ _ (by omega), hl, Nat.sub_self, show n - i = (n - (i + 1)) + 1 by omega, List.replicate_succ, List.set_cons_zero, sumR, sumR, List.range_succ, List.map_append, List.append_assoc]
  rfl

mutual

theorem nb_le : ∀ {v : AV}, v.nb 2 = true → v.nb 3 = true
  | .ptr i g off => fun h => by simp only [AV.nb, Nat.blt_eq] at h ⊢; omega
  | .pel i g _ _ off => fun h => by simp only [AV.nb, Nat.blt_eq] at h ⊢; omega
  | .sl i g off _ _ => fun h => by simp only [AV.nb, Nat.blt_eq] at h ⊢; omega
  | .mp i g => fun h => by simp only [AV.nb, Nat.blt_eq] at h ⊢; omega
  | .fn _ a b => fun h => by
    simp only [AV.nb, Bool.and_eq_true] at h ⊢
    exact ⟨nbl_le h.1, nbl_le h.2⟩
  | .ifc _ v => fun h => by simp only [AV.nb] at h ⊢; exact nb_le h
  | .agg l => fun h => by simp only [AV.nb] at h ⊢; exact nbl_le h
  | .tup l => fun h => by simp only [AV.nb] at h ⊢; exact nbl_le h
  | .bo _ => fun _ => rfl | .tt => fun _ => rfl | .ff => fun _ => rfl | .int _ _ => fun _ => rfl | .str _ => fun _ => rfl
  | .np => fun _ => rfl | .ns => fun _ => rfl | .nf => fun _ => rfl | .ni => fun _ => rfl | .nm => fun _ => rfl | .raw _ => fun _ => rfl
theorem nbl_le : ∀ {l : List AV}, AV.nbl 2 l = true → AV.nbl 3 l = true
  | [] => fun _ => rfl
  | v :: l => fun h => by
    simp only [AV.nbl, Bool.and_eq_true] at h ⊢
    exact ⟨nb_le h.1, nbl_le h.2⟩
end

/-- A bool's forms. -/
def frm (t : Nat) (b : Bool) : AV := match t with
  | 0 => .bo b
  | 1 => .ff
  | _ => .tt
theorem frm_nb (t : Nat) (b : Bool) (k : Nat) : (frm t b).nb k = true := by unfold frm; split <;> rfl
theorem isB_frm {v : AV} {b : Bool} (h : isB v b) : ∃ t, v = frm t b := by
  rcases h with rfl | ⟨rfl, _⟩ | ⟨rfl, _⟩
  · exact ⟨0, rfl⟩
  · exact ⟨1, rfl⟩
  · exact ⟨2, rfl⟩

section

variable {c0 hv fv dv : AV} {bad : Bool} {off c cX : Nat} {l X : List Int} {m : Msg} {K Kp : AV → AH → Prop}

theorem sumsR (o : okR c0 hv fv .ns dv bad off c l X m)
    (h1 : (numS bad l).1 = true → ∀ c0' off' c', isB c0' true → inX X off' c' (numS bad l).2 → K (.tup []) (pgR c0' hv fv .ns dv off' c' (numS bad l).2 X cX m))
    (h2 : ∀ n : Nat, (numS bad l).1 = false → (n : Int) = rdV 2 bad l → n ≤ 256 → ∀ c0' off' c', isB c0' (stR (numS bad l) n).1 → inX X off' c' (stR (numS bad l) n).2 →
      K (.tup []) (pgR c0' hv fv (.sl 2 0 0 n n) dv off' c' (stR (numS bad l) n).2 X cX m ++ [.one true 0 (.ints .u32 (sumR (numS bad l) n) n)])) :
    CallA Try.prog 31 [.ptr 0 0 0] (pgR c0 hv fv .ns dv off c l X cX m) K Kp := by
  have hV := rdV_bound (k := 2) (bad := bad) o.x.mem
  obtain ⟨n, hn⟩ := Int.eq_ofNat_of_zero_le hV.1
  refine step31 (fun _ => [0, 2]) [] rfl ?_
  repeat ((conv => whnf); first | with_reducible refine O_step ?_ | with_reducible refine S_step ?_ | with_reducible refine D_step ?_ | with_reducible refine RO.exit ?_ | with_reducible refine RO.ret ?_ | ((with_reducible refine And.intro ?sc ?_); case sc => exact side) | ((with_reducible refine br_f ?sc ?_); case sc => exact sideB) | ((with_reducible refine br_t ?sc ?_); case sc => exact sideB))
  refine numU_call (k := 2) (bad := bad) (l := l) (by decide) o.kc o.x (by simp [AV.nbl, AV.nb, isB_nb o.kh 2, isB_nb o.kf 2, o.kd]) (fun c' off' d' k1 k2 => ?_)
  have hn0 : rdV 2 bad l = (n : Int) := hn
  rw [hn]
  have hd3 : dv.nb 3 = true := nb_le o.kd
  cases hbd : rdB 2 bad l
  · rw [hbd] at k1
    rcases k1 with rfl | ⟨rfl, _⟩ | ⟨_, hx⟩
    · repeat ((conv => whnf); first | with_reducible refine O_step ?_ | with_reducible refine S_step ?_ | with_reducible refine D_step ?_ | with_reducible refine RO.exit ?_ | with_reducible refine RO.ret ?_ | ((with_reducible refine And.intro ?sc ?_); case sc => exact side) | ((with_reducible refine br_f ?sc ?_); case sc => exact sideB) | ((with_reducible refine br_t ?sc ?_); case sc => exact sideB))
      refine step25 (fun _ => []) [] rfl ?_
      repeat ((conv => whnf); first | with_reducible refine O_step ?_ | with_reducible refine S_step ?_ | with_reducible refine D_step ?_ | with_reducible refine RO.exit ?_ | with_reducible refine RO.ret ?_ | ((with_reducible refine And.intro ?sc ?_); case sc => exact side) | ((with_reducible refine br_f ?sc ?_); case sc => exact sideB) | ((with_reducible refine br_t ?sc ?_); case sc => exact sideB))
      refine And.intro (fun hc => ?_) (fun hc => ?_)
      · have hle : (n : Int) ≤ 256 := by simpa using hc
        have hS : (numS bad l).1 = false := by rw [numS, hbd, hn0]; simpa using hle
        have hL : (numS bad l).2 = rdL 2 bad l := rfl
        repeat ((conv => whnf); first | with_reducible refine O_step ?_ | with_reducible refine S_step ?_ | with_reducible refine D_step ?_ | with_reducible refine RO.exit ?_ | with_reducible refine RO.ret ?_ | ((with_reducible refine And.intro ?sc ?_); case sc => exact side) | ((with_reducible refine br_f ?sc ?_); case sc => exact sideB) | ((with_reducible refine br_t ?sc ?_); case sc => exact sideB))
        have hq : (!decide ((n : Int) ≤ 256)) = (numS bad l).1 := by rw [numS, hbd, hn0]; rfl
        rw [hq]
        refine WO.go (σ := Nat × Nat × Nat × Nat) (fun (i, t, off, c) => i ≤ n ∧ isB (frm t (stR (numS bad l) i).1) (stR (numS bad l) i).1 ∧ inX X off c (stR (numS bad l) i).2) (fun (i, _) => n - i)
          (fun (i, t, off, c) => [(0, .ptr 0 0 0), (49, .int .i64 n), (50, .int .i64 i)])
          (fun (i, t, off, c) => [.one true 0 (.cells (pgL (frm t (stR (numS bad l) i).1) .ff (.sl 1 0 off (stR (numS bad l) i).2.length c) hv fv (.sl 2 0 0 n n) dv m)), .one false 0 (.ints .u8 X cX), .one true 0 (.ints .u32 (sumR (numS bad l) i ++ List.replicate (n - i) 0) n)])
          (0, 0, off', d') tb_ok mixed (by kernel_rfl) ⟨Nat.zero_le _, ?_, k2⟩ (And.intro rfl (And.intro rfl (And.intro rfl (trivial)))) (And.intro ?_ (And.intro rfl (And.intro rfl (trivial)))) (fun _ => rfl) (fun _ => rfl) (fun q => ⟨by simp [AO.nb, Cont.nb, AV.nbl, AV.nb, isB_nb o.kh 3, isB_nb o.kf 3, frm_nb, hd3], trivial, trivial, trivial⟩) ?_
        · exact .inl rfl
        · rfl
        · rintro ⟨i, t, off, c⟩ ⟨i1, i2, i3⟩ d
          repeat ((conv => whnf); first | with_reducible refine O_step ?_ | with_reducible refine S_step ?_ | with_reducible refine D_step ?_ | with_reducible refine RO.exit ?_ | with_reducible refine RO.ret ?_ | ((with_reducible refine And.intro ?sc ?_); case sc => exact side) | ((with_reducible refine br_f ?sc ?_); case sc => exact sideB) | ((with_reducible refine br_t ?sc ?_); case sc => exact sideB))
          refine And.intro (fun hc => ?_) (fun hc => ?_)
          · have hc' : (i : Int) < n := of_decide_eq_true hc
            repeat ((conv => whnf); first | with_reducible refine O_step ?_ | with_reducible refine S_step ?_ | with_reducible refine D_step ?_ | with_reducible refine RO.exit ?_ | with_reducible refine RO.ret ?_ | ((with_reducible refine And.intro ?sc ?_); case sc => exact side) | ((with_reducible refine br_f ?sc ?_); case sc => exact sideB) | ((with_reducible refine br_t ?sc ?_); case sc => exact sideB))
            have hlen : (sumR (numS bad l) i ++ List.replicate (n - i) 0).length = n := by simp [sumR]; omega
            refine step42 (fun _ => [0]) [] rfl ?_
            repeat ((conv => whnf); first | with_reducible refine O_step ?_ | with_reducible refine S_step ?_ | with_reducible refine D_step ?_ | with_reducible refine RO.exit ?_ | with_reducible refine RO.ret ?_ | ((with_reducible refine And.intro ?sc ?_); case sc => exact side) | ((with_reducible refine br_f ?sc ?_); case sc => exact sideB) | ((with_reducible refine br_t ?sc ?_); case sc => exact sideB))
            refine numU3_call (k := 4) (bad := (stR (numS bad l) i).1) (l := (stR (numS bad l) i).2) (by decide) i2 i3 (by simp [AV.nbl, AV.nb, isB_nb o.kh 3, isB_nb o.kf 3, hd3]) (fun c2 off2 d2 j1 j2 => ?_)
            obtain ⟨t2, rfl⟩ := isB_frm j1
            repeat ((conv => whnf); first | with_reducible refine O_step ?_ | with_reducible refine S_step ?_ | with_reducible refine D_step ?_ | with_reducible refine RO.exit ?_ | with_reducible refine RO.ret ?_ | ((with_reducible refine And.intro ?sc ?_); case sc => exact side) | ((with_reducible refine br_f ?sc ?_); case sc => exact sideB) | ((with_reducible refine br_t ?sc ?_); case sc => exact sideB))
            refine RO.same (i + 1, t2, off2, d2) ⟨by omega, j1, j2⟩ (show n - (i + 1) < n - i by omega) (And.intro rfl (And.intro rfl (And.intro rfl (trivial)))) (And.intro rfl (And.intro rfl (And.intro ?_ trivial)))
            show AO.one true 0 (.ints .u32 (sumR (numS bad l) (i + 1) ++ List.replicate (n - (i + 1)) 0) n) = AO.one true 0 (.ints .u32 ((sumR (numS bad l) i ++ List.replicate (n - i) 0).set i (valR (numS bad l) i % 4294967296)) n)
            rw [show valR (numS bad l) i % 4294967296 = valR (numS bad l) i by have := rdV_bound (k := 4) (bad := (stR (numS bad l) i).1) i3.mem; unfold valR; omega, sumR_set _ (by omega)]
          · have hc' : ¬ (i : Int) < n := of_decide_eq_false hc
            obtain rfl : i = n := by omega
            repeat ((conv => whnf); first | with_reducible refine O_step ?_ | with_reducible refine S_step ?_ | with_reducible refine D_step ?_ | with_reducible refine RO.exit ?_ | with_reducible refine RO.ret ?_ | ((with_reducible refine And.intro ?sc ?_); case sc => exact side) | ((with_reducible refine br_f ?sc ?_); case sc => exact sideB) | ((with_reducible refine br_t ?sc ?_); case sc => exact sideB))
            have := h2 i hS hn0.symm (by omega) _ off c i2 i3
            rw [← List.append_nil (sumR (numS bad l) i)] at this
            rw [Nat.sub_self]
            exact this
      · have hle : ¬ (n : Int) ≤ 256 := by simpa using hc
        have hS : (numS bad l).1 = true := by rw [numS, hbd, hn0]; simpa using hle
        repeat ((conv => whnf); first | with_reducible refine O_step ?_ | with_reducible refine S_step ?_ | with_reducible refine D_step ?_ | with_reducible refine RO.exit ?_ | with_reducible refine RO.ret ?_ | ((with_reducible refine And.intro ?sc ?_); case sc => exact side) | ((with_reducible refine br_f ?sc ?_); case sc => exact sideB) | ((with_reducible refine br_t ?sc ?_); case sc => exact sideB))
        refine WO.rounds 1 tb_ok mixed (by kernel_rfl) ?_
        repeat ((conv => whnf); first | with_reducible refine O_step ?_ | with_reducible refine S_step ?_ | with_reducible refine D_step ?_ | with_reducible refine RO.exit ?_ | with_reducible refine RO.ret ?_ | ((with_reducible refine And.intro ?sc ?_); case sc => exact side) | ((with_reducible refine br_f ?sc ?_); case sc => exact sideB) | ((with_reducible refine br_t ?sc ?_); case sc => exact sideB))
        exact h1 hS _ off' d' (.inl (show AV.bo (!decide ((n : Int) ≤ 256)) = AV.bo true by rw [decide_eq_false hle]; rfl)) k2
    · repeat ((conv => whnf); first | with_reducible refine O_step ?_ | with_reducible refine S_step ?_ | with_reducible refine D_step ?_ | with_reducible refine RO.exit ?_ | with_reducible refine RO.ret ?_ | ((with_reducible refine And.intro ?sc ?_); case sc => exact side) | ((with_reducible refine br_f ?sc ?_); case sc => exact sideB) | ((with_reducible refine br_t ?sc ?_); case sc => exact sideB))
      refine step25 (fun _ => []) [] rfl ?_
      repeat ((conv => whnf); first | with_reducible refine O_step ?_ | with_reducible refine S_step ?_ | with_reducible refine D_step ?_ | with_reducible refine RO.exit ?_ | with_reducible refine RO.ret ?_ | ((with_reducible refine And.intro ?sc ?_); case sc => exact side) | ((with_reducible refine br_f ?sc ?_); case sc => exact sideB) | ((with_reducible refine br_t ?sc ?_); case sc => exact sideB))
      refine And.intro (fun hc => ?_) (fun hc => ?_)
      · have hle : (n : Int) ≤ 256 := by simpa using hc
        have hS : (numS bad l).1 = false := by rw [numS, hbd, hn0]; simpa using hle
        have hL : (numS bad l).2 = rdL 2 bad l := rfl
        repeat ((conv => whnf); first | with_reducible refine O_step ?_ | with_reducible refine S_step ?_ | with_reducible refine D_step ?_ | with_reducible refine RO.exit ?_ | with_reducible refine RO.ret ?_ | ((with_reducible refine And.intro ?sc ?_); case sc => exact side) | ((with_reducible refine br_f ?sc ?_); case sc => exact sideB) | ((with_reducible refine br_t ?sc ?_); case sc => exact sideB))
        have hq : (!decide ((n : Int) ≤ 256)) = (numS bad l).1 := by rw [numS, hbd, hn0]; rfl
        rw [hq]
        refine WO.go (σ := Nat × Nat × Nat × Nat) (fun (i, t, off, c) => i ≤ n ∧ isB (frm t (stR (numS bad l) i).1) (stR (numS bad l) i).1 ∧ inX X off c (stR (numS bad l) i).2) (fun (i, _) => n - i)
          (fun (i, t, off, c) => [(0, .ptr 0 0 0), (49, .int .i64 n), (50, .int .i64 i)])
          (fun (i, t, off, c) => [.one true 0 (.cells (pgL (frm t (stR (numS bad l) i).1) .ff (.sl 1 0 off (stR (numS bad l) i).2.length c) hv fv (.sl 2 0 0 n n) dv m)), .one false 0 (.ints .u8 X cX), .one true 0 (.ints .u32 (sumR (numS bad l) i ++ List.replicate (n - i) 0) n)])
          (0, 0, off', d') tb_ok mixed (by kernel_rfl) ⟨Nat.zero_le _, ?_, k2⟩ (And.intro rfl (And.intro rfl (And.intro rfl (trivial)))) (And.intro ?_ (And.intro rfl (And.intro rfl (trivial)))) (fun _ => rfl) (fun _ => rfl) (fun q => ⟨by simp [AO.nb, Cont.nb, AV.nbl, AV.nb, isB_nb o.kh 3, isB_nb o.kf 3, frm_nb, hd3], trivial, trivial, trivial⟩) ?_
        · exact .inl rfl
        · rfl
        · rintro ⟨i, t, off, c⟩ ⟨i1, i2, i3⟩ d
          repeat ((conv => whnf); first | with_reducible refine O_step ?_ | with_reducible refine S_step ?_ | with_reducible refine D_step ?_ | with_reducible refine RO.exit ?_ | with_reducible refine RO.ret ?_ | ((with_reducible refine And.intro ?sc ?_); case sc => exact side) | ((with_reducible refine br_f ?sc ?_); case sc => exact sideB) | ((with_reducible refine br_t ?sc ?_); case sc => exact sideB))
          refine And.intro (fun hc => ?_) (fun hc => ?_)
          · have hc' : (i : Int) < n := of_decide_eq_true hc
            repeat ((conv => whnf); first | with_reducible refine O_step ?_ | with_reducible refine S_step ?_ | with_reducible refine D_step ?_ | with_reducible refine RO.exit ?_ | with_reducible refine RO.ret ?_ | ((with_reducible refine And.intro ?sc ?_); case sc => exact side) | ((with_reducible refine br_f ?sc ?_); case sc => exact sideB) | ((with_reducible refine br_t ?sc ?_); case sc => exact sideB))
            have hlen : (sumR (numS bad l) i ++ List.replicate (n - i) 0).length = n := by simp [sumR]; omega
            refine step42 (fun _ => [0]) [] rfl ?_
            repeat ((conv => whnf); first | with_reducible refine O_step ?_ | with_reducible refine S_step ?_ | with_reducible refine D_step ?_ | with_reducible refine RO.exit ?_ | with_reducible refine RO.ret ?_ | ((with_reducible refine And.intro ?sc ?_); case sc => exact side) | ((with_reducible refine br_f ?sc ?_); case sc => exact sideB) | ((with_reducible refine br_t ?sc ?_); case sc => exact sideB))
            refine numU3_call (k := 4) (bad := (stR (numS bad l) i).1) (l := (stR (numS bad l) i).2) (by decide) i2 i3 (by simp [AV.nbl, AV.nb, isB_nb o.kh 3, isB_nb o.kf 3, hd3]) (fun c2 off2 d2 j1 j2 => ?_)
            obtain ⟨t2, rfl⟩ := isB_frm j1
            repeat ((conv => whnf); first | with_reducible refine O_step ?_ | with_reducible refine S_step ?_ | with_reducible refine D_step ?_ | with_reducible refine RO.exit ?_ | with_reducible refine RO.ret ?_ | ((with_reducible refine And.intro ?sc ?_); case sc => exact side) | ((with_reducible refine br_f ?sc ?_); case sc => exact sideB) | ((with_reducible refine br_t ?sc ?_); case sc => exact sideB))
            refine RO.same (i + 1, t2, off2, d2) ⟨by omega, j1, j2⟩ (show n - (i + 1) < n - i by omega) (And.intro rfl (And.intro rfl (And.intro rfl (trivial)))) (And.intro rfl (And.intro rfl (And.intro ?_ trivial)))
            show AO.one true 0 (.ints .u32 (sumR (numS bad l) (i + 1) ++ List.replicate (n - (i + 1)) 0) n) = AO.one true 0 (.ints .u32 ((sumR (numS bad l) i ++ List.replicate (n - i) 0).set i (valR (numS bad l) i % 4294967296)) n)
            rw [show valR (numS bad l) i % 4294967296 = valR (numS bad l) i by have := rdV_bound (k := 4) (bad := (stR (numS bad l) i).1) i3.mem; unfold valR; omega, sumR_set _ (by omega)]
          · have hc' : ¬ (i : Int) < n := of_decide_eq_false hc
            obtain rfl : i = n := by omega
            repeat ((conv => whnf); first | with_reducible refine O_step ?_ | with_reducible refine S_step ?_ | with_reducible refine D_step ?_ | with_reducible refine RO.exit ?_ | with_reducible refine RO.ret ?_ | ((with_reducible refine And.intro ?sc ?_); case sc => exact side) | ((with_reducible refine br_f ?sc ?_); case sc => exact sideB) | ((with_reducible refine br_t ?sc ?_); case sc => exact sideB))
            have := h2 i hS hn0.symm (by omega) _ off c i2 i3
            rw [← List.append_nil (sumR (numS bad l) i)] at this
            rw [Nat.sub_self]
            exact this
      · have hle : ¬ (n : Int) ≤ 256 := by simpa using hc
        have hS : (numS bad l).1 = true := by rw [numS, hbd, hn0]; simpa using hle
        repeat ((conv => whnf); first | with_reducible refine O_step ?_ | with_reducible refine S_step ?_ | with_reducible refine D_step ?_ | with_reducible refine RO.exit ?_ | with_reducible refine RO.ret ?_ | ((with_reducible refine And.intro ?sc ?_); case sc => exact side) | ((with_reducible refine br_f ?sc ?_); case sc => exact sideB) | ((with_reducible refine br_t ?sc ?_); case sc => exact sideB))
        refine WO.rounds 1 tb_ok mixed (by kernel_rfl) ?_
        repeat ((conv => whnf); first | with_reducible refine O_step ?_ | with_reducible refine S_step ?_ | with_reducible refine D_step ?_ | with_reducible refine RO.exit ?_ | with_reducible refine RO.ret ?_ | ((with_reducible refine And.intro ?sc ?_); case sc => exact side) | ((with_reducible refine br_f ?sc ?_); case sc => exact sideB) | ((with_reducible refine br_t ?sc ?_); case sc => exact sideB))
        exact h1 hS _ off' d' (.inl (show AV.bo (!decide ((n : Int) ≤ 256)) = AV.bo true by rw [decide_eq_false hle]; rfl)) k2
    · cases hx
  · rw [hbd] at k1
    have hS : (numS bad l).1 = true := by rw [numS, hbd]; rfl
    rcases k1 with rfl | ⟨_, hx⟩ | ⟨rfl, _⟩
    · skip
      repeat ((conv => whnf); first | with_reducible refine O_step ?_ | with_reducible refine S_step ?_ | with_reducible refine D_step ?_ | with_reducible refine RO.exit ?_ | with_reducible refine RO.ret ?_ | ((with_reducible refine And.intro ?sc ?_); case sc => exact side) | ((with_reducible refine br_f ?sc ?_); case sc => exact sideB) | ((with_reducible refine br_t ?sc ?_); case sc => exact sideB))
      refine step25 (fun _ => []) [] rfl ?_
      repeat ((conv => whnf); first | with_reducible refine O_step ?_ | with_reducible refine S_step ?_ | with_reducible refine D_step ?_ | with_reducible refine RO.exit ?_ | with_reducible refine RO.ret ?_ | ((with_reducible refine And.intro ?sc ?_); case sc => exact side) | ((with_reducible refine br_f ?sc ?_); case sc => exact sideB) | ((with_reducible refine br_t ?sc ?_); case sc => exact sideB))
      refine WO.rounds 1 tb_ok mixed (by kernel_rfl) ?_
      repeat ((conv => whnf); first | with_reducible refine O_step ?_ | with_reducible refine S_step ?_ | with_reducible refine D_step ?_ | with_reducible refine RO.exit ?_ | with_reducible refine RO.ret ?_ | ((with_reducible refine And.intro ?sc ?_); case sc => exact side) | ((with_reducible refine br_f ?sc ?_); case sc => exact sideB) | ((with_reducible refine br_t ?sc ?_); case sc => exact sideB))
      exact h1 hS _ off' d' (.inr (.inr ⟨rfl, rfl⟩)) k2
    · cases hx
    · skip
      repeat ((conv => whnf); first | with_reducible refine O_step ?_ | with_reducible refine S_step ?_ | with_reducible refine D_step ?_ | with_reducible refine RO.exit ?_ | with_reducible refine RO.ret ?_ | ((with_reducible refine And.intro ?sc ?_); case sc => exact side) | ((with_reducible refine br_f ?sc ?_); case sc => exact sideB) | ((with_reducible refine br_t ?sc ?_); case sc => exact sideB))
      refine step25 (fun _ => []) [] rfl ?_
      repeat ((conv => whnf); first | with_reducible refine O_step ?_ | with_reducible refine S_step ?_ | with_reducible refine D_step ?_ | with_reducible refine RO.exit ?_ | with_reducible refine RO.ret ?_ | ((with_reducible refine And.intro ?sc ?_); case sc => exact side) | ((with_reducible refine br_f ?sc ?_); case sc => exact sideB) | ((with_reducible refine br_t ?sc ?_); case sc => exact sideB))
      refine WO.rounds 1 tb_ok mixed (by kernel_rfl) ?_
      repeat ((conv => whnf); first | with_reducible refine O_step ?_ | with_reducible refine S_step ?_ | with_reducible refine D_step ?_ | with_reducible refine RO.exit ?_ | with_reducible refine RO.ret ?_ | ((with_reducible refine And.intro ?sc ?_); case sc => exact side) | ((with_reducible refine br_f ?sc ?_); case sc => exact sideB) | ((with_reducible refine br_t ?sc ?_); case sc => exact sideB))
      exact h1 hS _ off' d' (.inr (.inr ⟨rfl, rfl⟩)) k2
/-- slices.Clone of a window. -/
theorem bodyR {sv : AV} (hcX : X.length ≤ cX) (o : okR c0 hv fv sv dv bad off c l X m)
    (h : ∀ g' c', l.length ≤ c' → K (.tup []) [.one true 0 (.cells (pgL c0 .ff .ns hv fv sv (.sl 2 g' 0 l.length c') m)), .one false 0 (.ints .u8 X cX), .one true g' (.ints .u8 l c')]) :
    CallA Try.prog 36 [.ptr 0 0 0] (pgR c0 hv fv sv dv off c l X cX m) K Kp := by
  have hlx := o.x.lX
  have hlo := o.x.len
  refine step36 (fun _ => [0]) [] rfl ?_
  repeat ((conv => whnf); first | with_reducible refine O_step ?_ | with_reducible refine S_step ?_ | with_reducible refine D_step ?_ | with_reducible refine RO.exit ?_ | with_reducible refine RO.ret ?_ | ((with_reducible refine And.intro ?sc ?_); case sc => exact side) | ((with_reducible refine br_f ?sc ?_); case sc => exact sideB) | ((with_reducible refine br_t ?sc ?_); case sc => exact sideB))
  refine CallA.lift [.win 1 0 off] (clone_call (xs := l) (c0 := c) (c := l.length) (Kp := fun _ _ => False) (by omega)) rfl rfl ⟨⟨_, _, _, rfl, rfl, ?_⟩, trivial⟩ ⟨trivial, trivial⟩ ?_ (fun _ _ h => h.elim)
  · exact WinC.ints (by omega) o.x.eq.symm
  · rintro r M' ⟨g', c', rfl, rfl, hc⟩
    refine ⟨⟨rfl, rfl⟩, ?_⟩
    repeat ((conv => whnf); first | with_reducible refine O_step ?_ | with_reducible refine S_step ?_ | with_reducible refine D_step ?_ | with_reducible refine RO.exit ?_ | with_reducible refine RO.ret ?_ | ((with_reducible refine And.intro ?sc ?_); case sc => exact side) | ((with_reducible refine br_f ?sc ?_); case sc => exact sideB) | ((with_reducible refine br_t ?sc ?_); case sc => exact sideB))
    exact h g' c' hc
end

end Go.Proofs.Ytedlpkibdjccdaa
