/- Layer 6, the reference: begins, Read. -/
import Derived.Test.YtdnmbmnfglbfoaaH14

import Derived.Test.YtdnmbmnfglbfoaaGb

set_option linter.unusedVariables false

set_option linter.unusedSimpArgs false

open Go.RowKit

namespace Go.Proofs.Ytdnmbmnfglbfoaa

set_option maxRecDepth 10000

/-- Does the first row begin with the second one? -/
def begB (xs ys : List Bool) : Bool := decide (ys.length ≤ xs.length) && decide (xs.take ys.length = ys)
section

variable {xs ys : List Bool} {c0 c1 c d : Nat} {M : AH} {K Kp : AV → AH → Prop}

theorem begins_call (hx : xs.length ≤ 100000000) (hy : ys.length ≤ 100000000) (hK : K (.bo (begB xs ys)) [.one false 0 (.bools xs c), .one false 0 (.bools ys d)]) :
    CallA Try.prog 43 [.sl 0 0 0 xs.length c0, .sl 1 0 0 ys.length c1] [.one false 0 (.bools xs c), .one false 0 (.bools ys d)] K Kp := by
  refine CallA.post_asB ?_
  refine step43 (fun _ => [0, 1]) [] rfl ?_
  repeat ((conv => whnf); first | with_reducible refine O_step ?_ | with_reducible refine S_step ?_ | with_reducible refine D_step ?_ | with_reducible refine RO.exit ?_ | with_reducible refine RO.ret ?_ | ((with_reducible refine And.intro ?sc ?_); case sc => exact side) | ((with_reducible refine br_f ?sc ?_); case sc => exact sideB) | ((with_reducible refine br_t ?sc ?_); case sc => exact sideB))
  refine And.intro (fun h1 => ?_) (fun h1 => ?_)
  · have h1' : (xs.length : Int) < ys.length := by simpa using h1
    have e : begB xs ys = false := by unfold begB; rw [decide_eq_false (show ¬ ys.length ≤ xs.length by omega)]; rfl
    rw [e] at hK
    repeat ((conv => whnf); first | with_reducible refine O_step ?_ | with_reducible refine S_step ?_ | with_reducible refine D_step ?_ | with_reducible refine RO.exit ?_ | with_reducible refine RO.ret ?_ | ((with_reducible refine And.intro ?sc ?_); case sc => exact side) | ((with_reducible refine br_f ?sc ?_); case sc => exact sideB) | ((with_reducible refine br_t ?sc ?_); case sc => exact sideB))
    exact ⟨false, rfl, hK⟩
  have h1' : ¬ (xs.length : Int) < ys.length := by simpa using h1
  repeat ((conv => whnf); first | with_reducible refine O_step ?_ | with_reducible refine S_step ?_ | with_reducible refine D_step ?_ | with_reducible refine RO.exit ?_ | with_reducible refine RO.ret ?_ | ((with_reducible refine And.intro ?sc ?_); case sc => exact side))
  refine WO.go (σ := Nat) (fun i => i ≤ ys.length ∧ xs.take i = ys.take i) (fun i => ys.length - i)
    (fun i => [(0, .sl 0 0 0 xs.length c0), (1, .sl 1 0 0 ys.length c1), (5, .int .i64 (i : Int))]) (fun _ => [.one false 0 (.bools xs c), .one false 0 (.bools ys d)]) 0 tb_ok mixed (by kernel_rfl) ⟨Nat.zero_le _, rfl⟩ (And.intro rfl (And.intro rfl (And.intro rfl (trivial)))) (And.intro rfl (And.intro rfl (trivial))) (fun _ => rfl) (fun _ => rfl) (fun _ => ⟨trivial, trivial, trivial⟩) ?_
  rintro i ⟨i1, i2⟩ d0
  repeat ((conv => whnf); first | with_reducible refine O_step ?_ | with_reducible refine S_step ?_ | with_reducible refine D_step ?_ | with_reducible refine RO.exit ?_ | with_reducible refine RO.ret ?_ | ((with_reducible refine And.intro ?sc ?_); case sc => exact side))
  refine And.intro (fun hi => ?_) (fun hi => ?_)
  · have hil : i < ys.length := by simp only [decide_eq_true_eq] at hi; omega
    have hix : i < xs.length := by omega
    have gx : xs.getD i false = xs[i] := by simp [List.getD_eq_getElem?_getD, hix]
    have gy : ys.getD i false = ys[i] := by simp [List.getD_eq_getElem?_getD, hil]
    repeat ((conv => whnf); first | with_reducible refine O_step ?_ | with_reducible refine S_step ?_ | with_reducible refine D_step ?_ | with_reducible refine RO.exit ?_ | with_reducible refine RO.ret ?_ | ((with_reducible refine And.intro ?sc ?_); case sc => exact side))
    refine And.intro (fun hb => ?_) (fun hb => ?_)
    · have hb' : xs.getD i false ≠ ys.getD i false := by simpa using hb
      have e : begB xs ys = false := by
        unfold begB
        rw [Bool.and_eq_false_iff]
        right
        rw [decide_eq_false_iff_not]
        intro h
        have := congrArg (fun l => l[i]?) h
        simp only [List.getElem?_take, if_pos hil, List.getElem?_eq_getElem hix, List.getElem?_eq_getElem hil, Option.some.injEq] at this
        rw [gx, gy] at hb'
        exact hb' this
      rw [e] at hK
      repeat ((conv => whnf); first | with_reducible refine O_step ?_ | with_reducible refine S_step ?_ | with_reducible refine D_step ?_ | with_reducible refine RO.exit ?_ | with_reducible refine RO.ret ?_ | ((with_reducible refine And.intro ?sc ?_); case sc => exact side))
      exact ⟨false, rfl, hK⟩
    · have hb' : xs.getD i false = ys.getD i false := by simpa using hb
      repeat ((conv => whnf); first | with_reducible refine O_step ?_ | with_reducible refine S_step ?_ | with_reducible refine D_step ?_ | with_reducible refine RO.exit ?_ | with_reducible refine RO.ret ?_ | ((with_reducible refine And.intro ?sc ?_); case sc => exact side))
      refine RO.same (i + 1) ⟨by omega, ?_⟩ (show ys.length - (i + 1) < ys.length - i by omega) (And.intro rfl (And.intro rfl (And.intro rfl (trivial)))) (And.intro rfl (And.intro rfl (trivial)))
      rw [List.take_succ_eq_append_getElem hix, List.take_succ_eq_append_getElem hil, i2]
      rw [gx, gy] at hb'
      rw [hb']
  · have hil : i = ys.length := by simp only [decide_eq_false_iff_not] at hi; omega
    have e : begB xs ys = true := by
      unfold begB
      rw [decide_eq_true (show ys.length ≤ xs.length by omega)]
      rw [hil, List.take_length] at i2
      rw [i2]; simp
    rw [e] at hK
    repeat ((conv => whnf); first | with_reducible refine O_step ?_ | with_reducible refine S_step ?_ | with_reducible refine D_step ?_ | with_reducible refine RO.exit ?_ | with_reducible refine RO.ret ?_ | ((with_reducible refine And.intro ?sc ?_); case sc => exact side))
    exact ⟨true, rfl, hK⟩
theorem begins_at {i g n ci j g2 o2 n2 c2 co2 : Nat} {o1 own2 : Bool} {zs : List Bool} (hi : slot M i g = some (o1, .bools xs ci)) (hj : slot M j g2 = some (own2, .bools zs co2)) (hn : n = xs.length) (hn2 : n2 = ys.length) (hw : ys = (zs.drop o2).take ys.length) (ho : o2 + ys.length ≤ co2)
    (hx : xs.length ≤ 100000000) (hy : ys.length ≤ 100000000) (hK : K (.bo (begB xs ys)) M) : CallA Try.prog 43 [.sl i g 0 n c0, .sl j g2 o2 n2 c2] M K Kp := by
  subst hn; subst hn2
  refine CallA.lift [.win i g 0, .win j g2 o2] (begins_call (xs := xs) (ys := ys) (c0 := c0) (c1 := c2) (c := ci) (d := ys.length) (K := fun r M => r = .bo (begB xs ys) ∧ M = [.one false 0 (.bools xs ci), .one false 0 (.bools ys ys.length)]) (Kp := fun _ _ => False) hx hy ⟨rfl, rfl⟩) (by simp [AV.rnl, AV.rn, rnI, rnG, rnF, TE.i]) rfl
    ⟨⟨_, _, _, rfl, hi, WinC.same rfl (fun h => h)⟩, ⟨_, _, _, rfl, hj, WinC.bools ho hw⟩, trivial⟩ ⟨trivial, trivial, trivial⟩ ?_ (fun _ _ h => h.elim)
  rintro r M' ⟨rfl, rfl⟩
  refine ⟨⟨rfl, rfl, rfl⟩, ?_⟩
  rw [← List.append_nil M] at hK
  exact hK

/-- What Read answers, by definition. -/
def segF (row : List Bool) (a b : Nat) : List Bool := (row.drop a).take (b - a)
def hitB (seg : List Bool) (t : Tell) : Bool := decide (bitsC t.2.1 t.2.2 = seg)
def refG (ts : List Tell) (row : List Bool) (a : Nat) : Nat → Nat → Int × Nat × Int
  | 0, b => (0, b, 50)
  | f + 1, b => match ts.find? (hitB (segF row a b)) with
    | some t => ((t.1 : Int), b, 0)
    | none => if ts.any (fun t => begB (bitsC t.2.1 t.2.2) (segF row a b)) = true then if b = row.length then (0, b, 50) else refG ts row a f (b + 1) else (0, b, 60)
def refF (ts : List Tell) (row : List Bool) (a : Nat) : Int × Nat × Int := refG ts row a (row.length - a + 1) a
def rrH (cv : Nat → Nat) (d cr : Nat) (ts : List Tell) (row : List Bool) : AH := [.fam false ts.length (bF ts cv), .one false 0 (.tab 2 ts.length (gT 0 cv ts) d), .one false 0 (.bools row cr)]
theorem rread_call {ts : List Tell} {row : List Bool} {cv : Nat → Nat} {d cr : Nat} {a : Nat} (hts : ts.length ≤ 1000000) (h15 : ∀ t ∈ ts, t.2.2 ≤ 15) (hr : row.length ≤ 10000000) (ha : a ≤ row.length) (hc1 : row.length ≤ c1) (hcr : c1 ≤ cr)
    (hK : K (.tup [.int .i64 (refF ts row a).1, .int .i64 ((refF ts row a).2.1 : Int), .int .i64 (refF ts row a).2.2]) (rrH cv d cr ts row)) :
    CallA Try.prog 22 [.sl 1 0 0 ts.length c0, .sl 2 0 0 row.length c1, .int .i64 (a : Int)] (rrH cv d cr ts row) K Kp := by
  refine step22 (fun _ => [1]) [] rfl ?_
  repeat ((conv => whnf); first | with_reducible refine O_step ?_ | with_reducible refine S_step ?_ | with_reducible refine D_step ?_ | with_reducible refine RO.exit ?_ | with_reducible refine RO.ret ?_ | ((with_reducible refine And.intro ?sc ?_); case sc => exact side))
  refine WO.go (σ := Nat) (fun b => a ≤ b ∧ b ≤ row.length ∧ refG ts row a (row.length - b + 1) b = refF ts row a) (fun b => row.length - b)
    (fun b => [(0, .sl 1 0 0 ts.length c0), (1, .sl 2 0 0 row.length c1), (2, .int .i64 (b : Int)), (9, .int .i64 (a : Int))]) (fun _ => rrH cv d cr ts row) a tb_ok mixed (by kernel_rfl) ⟨Nat.le_refl _, ha, rfl⟩ (And.intro rfl (And.intro rfl (And.intro rfl (And.intro rfl (trivial))))) (And.intro rfl (And.intro rfl (And.intro rfl (trivial)))) (fun _ => rfl) (fun _ => rfl) (fun _ => ⟨fun _ => trivial, fun _ => rfl, trivial, trivial⟩) ?_
  rintro b ⟨b1, b2, b3⟩ d0
  simp only [refG] at b3
  generalize hseg : segF row a b = seg at b3
  have hsl : seg.length = b - a := by rw [← hseg]; unfold segF; rw [List.length_take, List.length_drop]; omega
  repeat ((conv => whnf); first | with_reducible refine O_step ?_ | with_reducible refine S_step ?_ | with_reducible refine D_step ?_ | with_reducible refine RO.exit ?_ | with_reducible refine RO.ret ?_ | ((with_reducible refine And.intro ?sc ?_); case sc => exact side))
  refine WO.go (σ := Nat × Bool) (fun s => s.1 ≤ ts.length ∧ (ts.take s.1).find? (hitB seg) = none ∧ s.2 = (ts.take s.1).any (fun t => begB (bitsC t.2.1 t.2.2) seg)) (fun s => ts.length - s.1)
    (fun s => [(0, .sl 1 0 0 ts.length c0), (1, .sl 2 0 0 row.length c1), (2, .int .i64 (b : Int)), (9, .int .i64 (a : Int)), (10, ofB s.2), (11, .int .i64 (s.1 : Int))]) (fun _ => rrH cv d cr ts row) (0, false) tb_ok mixed (by kernel_rfl) ⟨Nat.zero_le _, rfl, rfl⟩ (And.intro rfl (And.intro rfl (And.intro rfl (And.intro rfl (And.intro rfl (And.intro rfl (trivial))))))) (And.intro rfl (And.intro rfl (And.intro rfl (trivial)))) (fun _ => rfl) (fun s => by cases s.2 <;> rfl) (fun _ => ⟨fun _ => trivial, fun _ => rfl, trivial, trivial⟩) ?_
  rintro ⟨i, sm⟩ ⟨i1, i2, i3⟩ d1
  simp only at i1 i2 i3
  repeat ((conv => whnf); first | with_reducible refine O_step ?_ | with_reducible refine S_step ?_ | with_reducible refine D_step ?_ | with_reducible refine RO.exit ?_ | with_reducible refine RO.ret ?_ | ((with_reducible refine And.intro ?sc ?_); case sc => exact side))
  refine And.intro (fun hi => ?_) (fun hi => ?_)
  · have hil : i < ts.length := by simp only [decide_eq_true_eq] at hi; omega
    have hm := h15 _ (show ts.getD i default ∈ ts by rw [List.getD_eq_getElem?_getD, List.getElem?_eq_getElem hil]; exact List.getElem_mem hil)
    have htk : ts.take (i + 1) = ts.take i ++ [ts.getD i default] := by
      rw [List.take_succ_eq_append_getElem hil, List.getD_eq_getElem?_getD, List.getElem?_eq_getElem hil]; rfl
    generalize htt : ts.getD i default = t at hm htk
    have htt' : ts.getD (i : Int).toNat default = t := htt
    repeat ((conv => whnf); first | with_reducible refine O_step ?_ | with_reducible refine S_step ?_ | with_reducible refine D_step ?_ | with_reducible refine RO.exit ?_ | with_reducible refine RO.ret ?_ | ((with_reducible refine And.intro ?sc ?_); case sc => exact side))
    refine begins_at (i := 0) (g := i) (j := 2) (g2 := 0) (xs := bitsC t.2.1 t.2.2) (ci := cv i) (ys := seg) (zs := row) (co2 := cr) (o1 := false) (own2 := false) (by show (if i < ts.length then some (false, bF ts cv i) else none) = _; rw [if_pos hil]; show some (false, Cont.bools (bitsC (ts.getD i default).2.1 (ts.getD i default).2.2) (cv i)) = _; rw [htt]) rfl (by show (ts.getD i default).2.2 = _; rw [htt, bitsC_len]) ?_ ?_ ?_ (by rw [bitsC_len]; omega) (by omega) ?_
    · show (b : Int).toNat - (a : Int).toNat = _
      rw [hsl]; rfl
    · show seg = (row.drop (offS c1 (a : Int).toNat 0 1)).take seg.length
      rw [Int.toNat_natCast, hsl]
      by_cases e : c1 = a
      · have : b - a = 0 := by omega
        rw [this, List.take_zero]
        exact List.eq_nil_of_length_eq_zero (by omega)
      · rw [offS_1 e, Nat.zero_add, ← hseg]; rfl
    · show offS c1 (a : Int).toNat 0 1 + seg.length ≤ cr
      rw [Int.toNat_natCast, hsl]
      by_cases e : c1 = a
      · unfold offS; rw [if_pos e]; omega
      · rw [offS_1 e]; omega
    repeat ((conv => whnf); first | with_reducible refine O_step ?_ | with_reducible refine S_step ?_ | with_reducible refine D_step ?_ | with_reducible refine RO.exit ?_ | with_reducible refine RO.ret ?_ | ((with_reducible refine And.intro ?sc ?_); case sc => exact side))
    refine And.intro (fun hb => ?_) (fun hb => ?_)
    · have hb' := hb
      unfold begB at hb'
      simp only [Bool.and_eq_true, decide_eq_true_eq] at hb'
      repeat ((conv => whnf); first | with_reducible refine O_step ?_ | with_reducible refine S_step ?_ | with_reducible refine D_step ?_ | with_reducible refine RO.exit ?_ | with_reducible refine RO.ret ?_ | ((with_reducible refine And.intro ?sc ?_); case sc => exact side))
      refine And.intro (fun he => ?_) (fun he => ?_)
      · have he' : ((ts.getD i default).2.2 : Int) = (b : Int) - (a : Int) := by simpa using he
        rw [htt] at he'
        have hh : hitB seg t = true := by
          unfold hitB
          rw [decide_eq_true_eq]
          have := hb'.2
          rw [List.take_of_length_le (by rw [bitsC_len]; omega)] at this
          exact this
        have hf : ts.find? (hitB seg) = some t := by
          rw [← List.take_append_drop (i + 1) ts, List.find?_append, htk, List.find?_append, i2, List.find?_cons_of_pos hh]; rfl
        rw [hf] at b3
        simp only at b3
        rw [← b3, ← htt] at hK
        repeat ((conv => whnf); first | with_reducible refine O_step ?_ | with_reducible refine S_step ?_ | with_reducible refine D_step ?_ | with_reducible refine RO.exit ?_ | with_reducible refine RO.ret ?_ | ((with_reducible refine And.intro ?sc ?_); case sc => exact side))
        exact hK
      · have he' : ¬ ((ts.getD i default).2.2 : Int) = (b : Int) - (a : Int) := by simpa using he
        rw [htt] at he'
        have hh : hitB seg t = false := by
          unfold hitB
          rw [decide_eq_false_iff_not]
          intro e
          have := congrArg List.length e
          rw [bitsC_len] at this
          omega
        repeat ((conv => whnf); first | with_reducible refine O_step ?_ | with_reducible refine S_step ?_ | with_reducible refine D_step ?_ | with_reducible refine RO.exit ?_ | with_reducible refine RO.ret ?_ | ((with_reducible refine And.intro ?sc ?_); case sc => exact side))
        refine RO.same (i + 1, true) ⟨by show i + 1 ≤ _; omega, ?_, ?_⟩ (show ts.length - (i + 1) < ts.length - i by omega) (And.intro rfl (And.intro rfl (And.intro rfl (And.intro rfl (And.intro rfl (And.intro rfl (trivial))))))) (And.intro rfl (And.intro rfl (And.intro rfl (trivial))))
        · show (ts.take (i + 1)).find? _ = none
          rw [htk, List.find?_append, i2, List.find?_cons_of_neg (by rw [hh]; simp)]; rfl
        · show true = (ts.take (i + 1)).any _
          rw [htk, List.any_append]; simp [hb]
    · have hh : hitB seg t = false := by
        unfold hitB
        rw [decide_eq_false_iff_not]
        intro e
        rw [e] at hb
        unfold begB at hb
        simp at hb
      repeat ((conv => whnf); first | with_reducible refine O_step ?_ | with_reducible refine S_step ?_ | with_reducible refine D_step ?_ | with_reducible refine RO.exit ?_ | with_reducible refine RO.ret ?_ | ((with_reducible refine And.intro ?sc ?_); case sc => exact side))
      refine RO.same (i + 1, sm) ⟨by show i + 1 ≤ _; omega, ?_, ?_⟩ (show ts.length - (i + 1) < ts.length - i by omega) (And.intro rfl (And.intro rfl (And.intro rfl (And.intro rfl (And.intro rfl (And.intro rfl (trivial))))))) (And.intro rfl (And.intro rfl (And.intro rfl (trivial))))
      · show (ts.take (i + 1)).find? _ = none
        rw [htk, List.find?_append, i2, List.find?_cons_of_neg (by rw [hh]; simp)]; rfl
      · show sm = (ts.take (i + 1)).any _
        rw [htk, List.any_append, ← i3]; simp [hb]
  · have hil : i = ts.length := by simp only [decide_eq_false_iff_not] at hi; omega
    rw [hil, List.take_length] at i2 i3
    rw [i2] at b3
    simp only at b3
    rw [← i3] at b3
    cases sm with
    | false =>
      rw [if_neg (by simp)] at b3
      rw [← b3] at hK
      repeat ((conv => whnf); first | with_reducible refine O_step ?_ | with_reducible refine S_step ?_ | with_reducible refine D_step ?_ | with_reducible refine RO.exit ?_ | with_reducible refine RO.ret ?_ | ((with_reducible refine And.intro ?sc ?_); case sc => exact side) | ((with_reducible refine br_f ?sc ?_); case sc => exact sideB) | ((with_reducible refine br_t ?sc ?_); case sc => exact sideB))
      exact hK
    | true =>
      rw [if_pos rfl] at b3
      repeat ((conv => whnf); first | with_reducible refine O_step ?_ | with_reducible refine S_step ?_ | with_reducible refine D_step ?_ | with_reducible refine RO.exit ?_ | with_reducible refine RO.ret ?_ | ((with_reducible refine And.intro ?sc ?_); case sc => exact side) | ((with_reducible refine br_f ?sc ?_); case sc => exact sideB) | ((with_reducible refine br_t ?sc ?_); case sc => exact sideB))
      refine And.intro (fun hz => ?_) (fun hz => ?_)
      · have hz' : b = row.length := by
          have : (b : Int) = row.length := by simpa using hz
          omega
        rw [if_pos hz'] at b3
        rw [← b3] at hK
        repeat ((conv => whnf); first | with_reducible refine O_step ?_ | with_reducible refine S_step ?_ | with_reducible refine D_step ?_ | with_reducible refine RO.exit ?_ | with_reducible refine RO.ret ?_ | ((with_reducible refine And.intro ?sc ?_); case sc => exact side) | ((with_reducible refine br_f ?sc ?_); case sc => exact sideB) | ((with_reducible refine br_t ?sc ?_); case sc => exact sideB))
        exact hK
      · have hz' : ¬ b = row.length := by
          have : ¬ (b : Int) = row.length := by simpa using hz
          omega
        rw [if_neg hz'] at b3
        repeat ((conv => whnf); first | with_reducible refine O_step ?_ | with_reducible refine S_step ?_ | with_reducible refine D_step ?_ | with_reducible refine RO.exit ?_ | with_reducible refine RO.ret ?_ | ((with_reducible refine And.intro ?sc ?_); case sc => exact side))
        refine RO.same (b + 1) ⟨by omega, by omega, ?_⟩ (show row.length - (b + 1) < row.length - b by omega) (And.intro rfl (And.intro rfl (And.intro rfl (And.intro rfl (trivial))))) (And.intro rfl (And.intro rfl (And.intro rfl (trivial))))
        rw [← b3, show row.length - b = row.length - (b + 1) + 1 by omega]
end

end Go.Proofs.Ytdnmbmnfglbfoaa
