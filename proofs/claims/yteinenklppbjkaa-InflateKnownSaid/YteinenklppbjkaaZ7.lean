/- Layer 8: a fixed block; no block. -/
import Derived.Test.YteinenklppbjkaaZ6

set_option linter.unusedVariables false

set_option linter.unusedSimpArgs false

open Go.RowKit

namespace Go.Proofs.Yteinenklppbjkaa

set_option maxRecDepth 10000

def fixA : List Int := List.replicate 144 8 ++ List.replicate 112 9 ++ List.replicate 24 7 ++ List.replicate 8 8
def fixB : List Int := List.replicate 32 5
/-- More than a block's rounds. -/
def FU : Nat := 1000001
section

variable {K Kp : AV → AH → Prop} {xs : List Int} {lim gb cb g c : Nat} {s : DS}

theorem none_call (h1 : Kp (faultV 80) (zH lim gb cb xs g c s)) : CallA Try.prog 18 [.ptr 0 0 0] (zH lim gb cb xs g c s) K Kp := by
  refine step18 (fun _ => []) [] rfl ?_
  repeat ((conv => whnf); first | with_reducible refine O_step ?_ | with_reducible refine S_step ?_ | with_reducible refine D_step ?_ | with_reducible refine RO.exit ?_ | with_reducible refine RO.ret ?_ | ((with_reducible refine And.intro ?sc ?_); case sc => exact side) | ((with_reducible refine br_f ?sc ?_); case sc => exact sideB) | ((with_reducible refine br_t ?sc ?_); case sc => exact sideB))
  refine must_at (fun h => absurd h (by decide)) (fun _ => ?_)
  exact h1
def fixR : List (List AV) := [[.int .i64 144, .int .i64 8], [.int .i64 112, .int .i64 9], [.int .i64 24, .int .i64 7], [.int .i64 8, .int .i64 8]]
def fixN : List (Nat × Int) := [(144, 8), (112, 9), (24, 7), (8, 8)]
def fixP (i : Nat) : List Int := (fixN.take i).flatMap fun r => List.replicate r.1 r.2
theorem fixP_4 : fixP 4 = fixA := by decide +kernel
def fxH (lim gb cb : Nat) (xs : List Int) (g c : Nat) (s : DS) (gl cl : Nat) (l : List Int) : AH := zH lim gb cb xs g c s ++ [.one true 0 (.tab 2 4 (fun j => fixR.getD j []) 4), .one true gl (.ints .u8 l cl)]
theorem fixR_nb (k : Nat) : (Cont.tab 2 4 (fun j => fixR.getD j []) 4).nb k := by
  intro j
  by_cases h : j < 4
  · match j, h with
    | 0, _ => rfl
    | 1, _ => rfl
    | 2, _ => rfl
    | 3, _ => rfl
  · show AV.nbl k (fixR.getD j []) = true
    rw [List.getD_eq_getElem?_getD, List.getElem?_eq_none (show fixR.length ≤ j by show 4 ≤ j; omega)]; rfl
theorem fxH_nb {gl cl : Nat} {l : List Int} : nbH 6 (fxH lim gb cb xs g c s gl cl l) := ⟨by simp [Cont.nb, AV.nbl, AV.nb, AO.nb], rfl, trivial, trivial, fixR_nb _, trivial, trivial⟩
theorem syms_at (E : AH) (i j : Nat) {A B : List ((Int × Int) × Int)} {N N' : Int} {f0 : Nat} (hi1 : E[i]? = some (mapO A)) (hi2 : E[i + 1]? = some (tabO (i + 4))) (hj1 : E[j]? = some (mapO B)) (hj2 : E[j + 1]? = some (tabO (j + 4)))
    (hap : (apartT [.own 0, .own 1, .own 2, .own 3, .own (i + 4), .own (i + 5), .own (j + 4), .own (j + 5)] && AV.w0l [.own 0, .own 1, .own 2, .own 3, .own (i + 4), .own (i + 5), .own (j + 4), .own (j + 5)] [.ptr 0 0 0, .ptr 5 0 0, .ptr 7 0 0]) = true)
    (ok : ZOk xs lim c s) (hb : ∀ x ∈ s.out, 0 ≤ x ∧ x < 256) (hA : keyOk A) (hB : keyOk B) (hA2 : symLt N A) (hB2 : symLt N' B) (hf : lim < f0 + s.out.length) {R : Except Int (Unit × DS)} (hR : (pSyms A B f0).run (unpack xs) lim s = R)
    (h0 : ∀ g' c' s', R = .ok ((), s') → ZOk xs lim c' s' → (∀ x ∈ s'.out, 0 ≤ x ∧ x < 256) → K (.tup []) (zH lim gb cb xs g' c' s' ++ E))
    (h1 : ∀ e g' c' s', R = .error e → Kp (faultV e) (zH lim gb cb xs g' c' s' ++ E)) :
    CallA Try.prog 34 [.ptr 0 0 0, .ptr (i + 5) 0 0, .ptr (j + 5) 0 0] (zH lim gb cb xs g c s ++ E) K Kp := by
  have key : ∀ g' c' s', setH [.own 0, .own 1, .own 2, .own 3, .own (i + 4), .own (i + 5), .own (j + 4), .own (j + 5)] (zH lim gb cb xs g c s ++ E).length [.own 0, .own 1, .own 2, .own 3, .own (i + 4), .own (i + 5), .own (j + 4), .own (j + 5)] (zH8 lim gb cb xs A B g' c' s') (zH lim gb cb xs g c s ++ E) = zH lim gb cb xs g' c' s' ++ E := by
    intro g' c' s'
    show ((((zH lim gb cb xs g' c' s' ++ E).set (i + 4) (AO.one true 0 ((Cont.map (.pair .i64 .i64) (mzM A)).rn [.own 0, .own 1, .own 2, .own 3, .own (i + 4), .own (i + 5), .own (j + 4), .own (j + 5)] (zH lim gb cb xs g c s ++ E).length))).set (i + 5) (tabO (i + 4))).set (j + 4) (AO.one true 0 ((Cont.map (.pair .i64 .i64) (mzM B)).rn [.own 0, .own 1, .own 2, .own 3, .own (i + 4), .own (i + 5), .own (j + 4), .own (j + 5)] (zH lim gb cb xs g c s ++ E).length))).set (j + 5) (tabO (j + 4)) ++ [] = _
    rw [mz_rn, mz_rn, List.append_nil]
    show zH lim gb cb xs g' c' s' ++ ((((E.set i (mapO A)).set (i + 1) (tabO (i + 4))).set j (mapO B)).set (j + 1) (tabO (j + 4))) = _
    rw [ssame hi1, ssame hi2, ssame hj1, ssame hj2]
  refine CallA.lift [.own 0, .own 1, .own 2, .own 3, .own (i + 4), .own (i + 5), .own (j + 4), .own (j + 5)] (syms_call (K := fun r M => ∃ g' c' s', r = .tup [] ∧ M = zH8 lim gb cb xs A B g' c' s' ∧ K r (zH lim gb cb xs g' c' s' ++ E)) (Kp := fun r M => ∃ e g' c' s', r = faultV e ∧ M = zH8 lim gb cb xs A B g' c' s' ∧ Kp r (zH lim gb cb xs g' c' s' ++ E)) ok hb hA hB hA2 hB2 hf hR
    (fun g' c' s' h k l => ⟨g', c', s', rfl, rfl, h0 g' c' s' h k l⟩) (fun e g' c' s' h => ⟨e, g', c', s', rfl, rfl, h1 e g' c' s' h⟩)) rfl hap
    ⟨⟨rfl, rfl⟩, ⟨rfl, rfl⟩, ⟨rfl, rfl⟩, ⟨rfl, rfl⟩, ⟨?_, rfl⟩, ⟨?_, rfl⟩, ⟨?_, rfl⟩, ⟨?_, rfl⟩, trivial⟩ ⟨rfl, rfl, trivial, trivial, mz_w0 _ (.pair .i64 .i64) A, rfl, mz_w0 _ (.pair .i64 .i64) B, rfl, trivial⟩ ?_ ?_
  · show E[i]? = some (AO.one true 0 ((Cont.map (.pair .i64 .i64) (mzM A)).rn _ _))
    rw [mz_rn]; exact hi1
  · exact hi2
  · show E[j]? = some (AO.one true 0 ((Cont.map (.pair .i64 .i64) (mzM B)).rn _ _))
    rw [mz_rn]; exact hj1
  · exact hj2
  · rintro r M' ⟨g', c', s', rfl, rfl, hk⟩
    refine ⟨⟨rfl, rfl, rfl, rfl, rfl, rfl, rfl, rfl, rfl⟩, ?_⟩
    rw [key]
    exact hk
  · rintro r M' ⟨e, g', c', s', rfl, rfl, hk⟩
    refine ⟨⟨rfl, rfl, rfl, rfl, rfl, rfl, rfl, rfl, rfl⟩, ?_⟩
    rw [key]
    exact hk
theorem fixed_call (ok : ZOk xs lim c s) (hb : ∀ x ∈ s.out, 0 ≤ x ∧ x < 256) {R : Except Int (Unit × DS)} (hR : (pSyms (layM (allT fixA) []) (layM (allT fixB) []) FU).run (unpack xs) lim s = R)
    (h0 : ∀ g' c' s', R = .ok ((), s') → ZOk xs lim c' s' → (∀ x ∈ s'.out, 0 ≤ x ∧ x < 256) → K (.tup []) (zH lim gb cb xs g' c' s'))
    (h1 : ∀ e g' c' s', R = .error e → Kp (faultV e) (zH lim gb cb xs g' c' s')) :
    CallA Try.prog 16 [.ptr 0 0 0] (zH lim gb cb xs g c s) K Kp := by
  refine CallA.post_sub2 ?_
  refine step16 (fun _ => []) [] rfl ?_
  repeat ((conv => whnf); first | with_reducible refine O_step ?_ | with_reducible refine S_step ?_ | with_reducible refine D_step ?_ | with_reducible refine RO.exit ?_ | with_reducible refine RO.ret ?_ | ((with_reducible refine And.intro ?sc ?_); case sc => exact side) | ((with_reducible refine br_f ?sc ?_); case sc => exact sideB) | ((with_reducible refine br_t ?sc ?_); case sc => exact sideB))
  refine WO.gov (σ := Nat × Nat × Nat) (fun (i, gl, cl) => i ≤ 4 ∧ (fixP i).length ≤ cl) (fun (i, _) => 4 - i) (fun (i, gl, cl) => [(0, .ptr 0 0 0), (2, .sl 5 gl 0 (fixP i).length cl), (9, .sl 4 0 0 4 4), (10, .int .i64 4), (11, .int .i64 (i : Int))])
    (fun (i, gl, cl) => fxH lim gb cb xs g c s gl cl (fixP i)) (0, 0, 0) tb_ok mixed (by kernel_rfl) [(0, .ptr 0 0 0), (2, .ns), (9, .sl 4 0 0 4 4), (10, .int .i64 4), (11, .int .i64 0)] _ ⟨Nat.zero_le _, Nat.zero_le _⟩ (And.intro rfl (And.intro rfl (And.intro rfl (And.intro rfl (And.intro rfl (trivial)))))) rfl
    (Vw.trans (Vw.tab (i := 4) (fun j => fixR.getD j []) rfl ?_) (Vw.nils (x := .ints .u8 [] 0) ⟨rfl, rfl⟩ (And.intro (.inl rfl) (And.intro (.inr ⟨rfl, rfl⟩) (And.intro (.inl rfl) (And.intro (.inl rfl) (And.intro (.inl rfl) trivial))))))) (And.intro rfl (And.intro rfl (And.intro rfl (And.intro rfl (And.intro rfl (And.intro rfl (trivial))))))) (fun _ => rfl) (fun _ => rfl) (fun _ => fxH_nb) ?_
  · intro r hr
    refine congrArg (fun l => List.getD l r []) (?_ : fixR = _)
    kernel_rfl
  rintro ⟨i, gl, cl⟩ ⟨hi, hcl⟩ d0
  refine Or.elim (Nat.lt_or_ge i 4) (fun hl => ?_) (fun hl => ?_)
  · match i, hl with
    | 0, _ =>
      have hp : fixP 1 = fixP 0 ++ List.replicate 144 8 := by decide +kernel
      have hpl : (fixP 0).length = 0 := by decide +kernel
      have hpl2 : (fixP 1).length = 0 + 144 := by decide +kernel
      have hcl' : (fixP 0).length ≤ cl := hcl
      have hkr : (List.replicate 144 (8 : Int)).length = 144 := List.length_replicate ..
      repeat ((conv => whnf); first | with_reducible refine O_step ?_ | with_reducible refine S_step ?_ | with_reducible refine D_step ?_ | with_reducible refine RO.exit ?_ | with_reducible refine RO.ret ?_ | ((with_reducible refine And.intro ?sc ?_); case sc => exact side) | ((with_reducible refine br_f ?sc ?_); case sc => exact sideB) | ((with_reducible refine br_t ?sc ?_); case sc => exact sideB))
      refine repeat8_at (i := 7) (k := 144) (v := 8) rfl (by omega) (by omega) ?_
      repeat ((conv => whnf); first | with_reducible refine O_step ?_ | with_reducible refine S_step ?_ | with_reducible refine D_step ?_ | with_reducible refine RO.exit ?_ | with_reducible refine RO.ret ?_ | ((with_reducible refine And.intro ?sc ?_); case sc => exact side) | ((with_reducible refine br_f ?sc ?_); case sc => exact sideB) | ((with_reducible refine br_t ?sc ?_); case sc => exact sideB))
      intro zs hzs
      obtain rfl : zs = List.replicate 144 8 := by rw [hzs]; rfl
      repeat ((conv => whnf); first | with_reducible refine O_step ?_ | with_reducible refine S_step ?_ | with_reducible refine D_step ?_ | with_reducible refine RO.exit ?_ | with_reducible refine RO.ret ?_ | ((with_reducible refine And.intro ?sc ?_); case sc => exact side) | ((with_reducible refine br_f ?sc ?_); case sc => exact sideB) | ((with_reducible refine br_t ?sc ?_); case sc => exact sideB))
      intro c4 hc4
      have hc4' : (fixP 0).length + 144 ≤ c4 := hc4
      repeat ((conv => whnf); first | with_reducible refine O_step ?_ | with_reducible refine S_step ?_ | with_reducible refine D_step ?_ | with_reducible refine RO.exit ?_ | with_reducible refine RO.ret ?_ | ((with_reducible refine And.intro ?sc ?_); case sc => exact side) | ((with_reducible refine br_f ?sc ?_); case sc => exact sideB) | ((with_reducible refine br_t ?sc ?_); case sc => exact sideB))
      refine RO.same (1, gl + 1, c4) ⟨by decide, by show (fixP 1).length ≤ c4; omega⟩ (show 4 - 1 < 4 - 0 by decide) (And.intro rfl (And.intro ?_ (And.intro rfl (And.intro rfl (And.intro rfl (trivial)))))) (And.intro rfl (And.intro rfl (And.intro rfl (And.intro rfl (And.intro rfl (And.intro ?_ trivial))))))
      · show AV.sl 5 (gl + 1) 0 ((fixP 0).length + 144) c4 = AV.sl 5 (gl + 1) 0 (fixP 1).length c4
        rw [hpl2, hpl]
      · show AO.one true (gl + 1) (.ints .u8 (fixP 0 ++ List.replicate 144 8) c4) = AO.one true (gl + 1) (.ints .u8 (fixP 1) c4)
        rw [hp]
    | 1, _ =>
      have hp : fixP 2 = fixP 1 ++ List.replicate 112 9 := by decide +kernel
      have hpl : (fixP 1).length = 144 := by decide +kernel
      have hpl2 : (fixP 2).length = 144 + 112 := by decide +kernel
      have hcl' : (fixP 1).length ≤ cl := hcl
      have hkr : (List.replicate 112 (9 : Int)).length = 112 := List.length_replicate ..
      repeat ((conv => whnf); first | with_reducible refine O_step ?_ | with_reducible refine S_step ?_ | with_reducible refine D_step ?_ | with_reducible refine RO.exit ?_ | with_reducible refine RO.ret ?_ | ((with_reducible refine And.intro ?sc ?_); case sc => exact side) | ((with_reducible refine br_f ?sc ?_); case sc => exact sideB) | ((with_reducible refine br_t ?sc ?_); case sc => exact sideB))
      refine repeat8_at (i := 7) (k := 112) (v := 9) rfl (by omega) (by omega) ?_
      repeat ((conv => whnf); first | with_reducible refine O_step ?_ | with_reducible refine S_step ?_ | with_reducible refine D_step ?_ | with_reducible refine RO.exit ?_ | with_reducible refine RO.ret ?_ | ((with_reducible refine And.intro ?sc ?_); case sc => exact side) | ((with_reducible refine br_f ?sc ?_); case sc => exact sideB) | ((with_reducible refine br_t ?sc ?_); case sc => exact sideB))
      intro zs hzs
      obtain rfl : zs = List.replicate 112 9 := by rw [hzs]; rfl
      repeat ((conv => whnf); first | with_reducible refine O_step ?_ | with_reducible refine S_step ?_ | with_reducible refine D_step ?_ | with_reducible refine RO.exit ?_ | with_reducible refine RO.ret ?_ | ((with_reducible refine And.intro ?sc ?_); case sc => exact side) | ((with_reducible refine br_f ?sc ?_); case sc => exact sideB) | ((with_reducible refine br_t ?sc ?_); case sc => exact sideB))
      intro c4 hc4
      have hc4' : (fixP 1).length + 112 ≤ c4 := hc4
      repeat ((conv => whnf); first | with_reducible refine O_step ?_ | with_reducible refine S_step ?_ | with_reducible refine D_step ?_ | with_reducible refine RO.exit ?_ | with_reducible refine RO.ret ?_ | ((with_reducible refine And.intro ?sc ?_); case sc => exact side) | ((with_reducible refine br_f ?sc ?_); case sc => exact sideB) | ((with_reducible refine br_t ?sc ?_); case sc => exact sideB))
      refine RO.same (2, gl + 1, c4) ⟨by decide, by show (fixP 2).length ≤ c4; omega⟩ (show 4 - 2 < 4 - 1 by decide) (And.intro rfl (And.intro ?_ (And.intro rfl (And.intro rfl (And.intro rfl (trivial)))))) (And.intro rfl (And.intro rfl (And.intro rfl (And.intro rfl (And.intro rfl (And.intro ?_ trivial))))))
      · show AV.sl 5 (gl + 1) 0 ((fixP 1).length + 112) c4 = AV.sl 5 (gl + 1) 0 (fixP 2).length c4
        rw [hpl2, hpl]
      · show AO.one true (gl + 1) (.ints .u8 (fixP 1 ++ List.replicate 112 9) c4) = AO.one true (gl + 1) (.ints .u8 (fixP 2) c4)
        rw [hp]
    | 2, _ =>
      have hp : fixP 3 = fixP 2 ++ List.replicate 24 7 := by decide +kernel
      have hpl : (fixP 2).length = 256 := by decide +kernel
      have hpl2 : (fixP 3).length = 256 + 24 := by decide +kernel
      have hcl' : (fixP 2).length ≤ cl := hcl
      have hkr : (List.replicate 24 (7 : Int)).length = 24 := List.length_replicate ..
      repeat ((conv => whnf); first | with_reducible refine O_step ?_ | with_reducible refine S_step ?_ | with_reducible refine D_step ?_ | with_reducible refine RO.exit ?_ | with_reducible refine RO.ret ?_ | ((with_reducible refine And.intro ?sc ?_); case sc => exact side) | ((with_reducible refine br_f ?sc ?_); case sc => exact sideB) | ((with_reducible refine br_t ?sc ?_); case sc => exact sideB))
      refine repeat8_at (i := 7) (k := 24) (v := 7) rfl (by omega) (by omega) ?_
      repeat ((conv => whnf); first | with_reducible refine O_step ?_ | with_reducible refine S_step ?_ | with_reducible refine D_step ?_ | with_reducible refine RO.exit ?_ | with_reducible refine RO.ret ?_ | ((with_reducible refine And.intro ?sc ?_); case sc => exact side) | ((with_reducible refine br_f ?sc ?_); case sc => exact sideB) | ((with_reducible refine br_t ?sc ?_); case sc => exact sideB))
      intro zs hzs
      obtain rfl : zs = List.replicate 24 7 := by rw [hzs]; rfl
      repeat ((conv => whnf); first | with_reducible refine O_step ?_ | with_reducible refine S_step ?_ | with_reducible refine D_step ?_ | with_reducible refine RO.exit ?_ | with_reducible refine RO.ret ?_ | ((with_reducible refine And.intro ?sc ?_); case sc => exact side) | ((with_reducible refine br_f ?sc ?_); case sc => exact sideB) | ((with_reducible refine br_t ?sc ?_); case sc => exact sideB))
      intro c4 hc4
      have hc4' : (fixP 2).length + 24 ≤ c4 := hc4
      repeat ((conv => whnf); first | with_reducible refine O_step ?_ | with_reducible refine S_step ?_ | with_reducible refine D_step ?_ | with_reducible refine RO.exit ?_ | with_reducible refine RO.ret ?_ | ((with_reducible refine And.intro ?sc ?_); case sc => exact side) | ((with_reducible refine br_f ?sc ?_); case sc => exact sideB) | ((with_reducible refine br_t ?sc ?_); case sc => exact sideB))
      refine RO.same (3, gl + 1, c4) ⟨by decide, by show (fixP 3).length ≤ c4; omega⟩ (show 4 - 3 < 4 - 2 by decide) (And.intro rfl (And.intro ?_ (And.intro rfl (And.intro rfl (And.intro rfl (trivial)))))) (And.intro rfl (And.intro rfl (And.intro rfl (And.intro rfl (And.intro rfl (And.intro ?_ trivial))))))
      · show AV.sl 5 (gl + 1) 0 ((fixP 2).length + 24) c4 = AV.sl 5 (gl + 1) 0 (fixP 3).length c4
        rw [hpl2, hpl]
      · show AO.one true (gl + 1) (.ints .u8 (fixP 2 ++ List.replicate 24 7) c4) = AO.one true (gl + 1) (.ints .u8 (fixP 3) c4)
        rw [hp]
    | 3, _ =>
      have hp : fixP 4 = fixP 3 ++ List.replicate 8 8 := by decide +kernel
      have hpl : (fixP 3).length = 280 := by decide +kernel
      have hpl2 : (fixP 4).length = 280 + 8 := by decide +kernel
      have hcl' : (fixP 3).length ≤ cl := hcl
      have hkr : (List.replicate 8 (8 : Int)).length = 8 := List.length_replicate ..
      repeat ((conv => whnf); first | with_reducible refine O_step ?_ | with_reducible refine S_step ?_ | with_reducible refine D_step ?_ | with_reducible refine RO.exit ?_ | with_reducible refine RO.ret ?_ | ((with_reducible refine And.intro ?sc ?_); case sc => exact side) | ((with_reducible refine br_f ?sc ?_); case sc => exact sideB) | ((with_reducible refine br_t ?sc ?_); case sc => exact sideB))
      refine repeat8_at (i := 7) (k := 8) (v := 8) rfl (by omega) (by omega) ?_
      repeat ((conv => whnf); first | with_reducible refine O_step ?_ | with_reducible refine S_step ?_ | with_reducible refine D_step ?_ | with_reducible refine RO.exit ?_ | with_reducible refine RO.ret ?_ | ((with_reducible refine And.intro ?sc ?_); case sc => exact side) | ((with_reducible refine br_f ?sc ?_); case sc => exact sideB) | ((with_reducible refine br_t ?sc ?_); case sc => exact sideB))
      intro zs hzs
      obtain rfl : zs = List.replicate 8 8 := by rw [hzs]; rfl
      repeat ((conv => whnf); first | with_reducible refine O_step ?_ | with_reducible refine S_step ?_ | with_reducible refine D_step ?_ | with_reducible refine RO.exit ?_ | with_reducible refine RO.ret ?_ | ((with_reducible refine And.intro ?sc ?_); case sc => exact side) | ((with_reducible refine br_f ?sc ?_); case sc => exact sideB) | ((with_reducible refine br_t ?sc ?_); case sc => exact sideB))
      intro c4 hc4
      have hc4' : (fixP 3).length + 8 ≤ c4 := hc4
      repeat ((conv => whnf); first | with_reducible refine O_step ?_ | with_reducible refine S_step ?_ | with_reducible refine D_step ?_ | with_reducible refine RO.exit ?_ | with_reducible refine RO.ret ?_ | ((with_reducible refine And.intro ?sc ?_); case sc => exact side) | ((with_reducible refine br_f ?sc ?_); case sc => exact sideB) | ((with_reducible refine br_t ?sc ?_); case sc => exact sideB))
      refine RO.same (4, gl + 1, c4) ⟨by decide, by show (fixP 4).length ≤ c4; omega⟩ (show 4 - 4 < 4 - 3 by decide) (And.intro rfl (And.intro ?_ (And.intro rfl (And.intro rfl (And.intro rfl (trivial)))))) (And.intro rfl (And.intro rfl (And.intro rfl (And.intro rfl (And.intro rfl (And.intro ?_ trivial))))))
      · show AV.sl 5 (gl + 1) 0 ((fixP 3).length + 8) c4 = AV.sl 5 (gl + 1) 0 (fixP 4).length c4
        rw [hpl2, hpl]
      · show AO.one true (gl + 1) (.ints .u8 (fixP 3 ++ List.replicate 8 8) c4) = AO.one true (gl + 1) (.ints .u8 (fixP 4) c4)
        rw [hp]
  · obtain rfl : i = 4 := by omega
    simp only [fixP_4] at hcl
    have hAu : ∀ x ∈ fixA, 0 ≤ x ∧ x < 256 := by decide +kernel
    have hBu : ∀ x ∈ fixB, 0 ≤ x ∧ x < 256 := by decide +kernel
    have hAl : fixA.length = 288 := by decide +kernel
    have hAe : eachE fixA = 0 := by decide +kernel
    have hBe : eachE fixB = 0 := by decide +kernel
    have hll := ok.ll
    repeat ((conv => whnf); first | with_reducible refine O_step ?_ | with_reducible refine S_step ?_ | with_reducible refine D_step ?_ | with_reducible refine RO.exit ?_ | with_reducible refine RO.ret ?_ | ((with_reducible refine And.intro ?sc ?_); case sc => exact side) | ((with_reducible refine br_f ?sc ?_); case sc => exact sideB) | ((with_reducible refine br_t ?sc ?_); case sc => exact sideB))
    rw [fixP_4]
    refine table_at (i := 5) (ls := fixA) rfl rfl (by omega) hAu (fun _ => ?_) (fun h => absurd hAe h)
    repeat ((conv => whnf); first | with_reducible refine O_step ?_ | with_reducible refine S_step ?_ | with_reducible refine D_step ?_ | with_reducible refine RO.exit ?_ | with_reducible refine RO.ret ?_ | ((with_reducible refine And.intro ?sc ?_); case sc => exact side) | ((with_reducible refine br_f ?sc ?_); case sc => exact sideB) | ((with_reducible refine br_t ?sc ?_); case sc => exact sideB))
    refine repeat8_at (i := 8) (k := 32) (v := 5) rfl (by omega) (by omega) ?_
    repeat ((conv => whnf); first | with_reducible refine O_step ?_ | with_reducible refine S_step ?_ | with_reducible refine D_step ?_ | with_reducible refine RO.exit ?_ | with_reducible refine RO.ret ?_ | ((with_reducible refine And.intro ?sc ?_); case sc => exact side) | ((with_reducible refine br_f ?sc ?_); case sc => exact sideB) | ((with_reducible refine br_t ?sc ?_); case sc => exact sideB))
    refine table_at (i := 9) (ls := fixB) rfl rfl (by decide) hBu (fun _ => ?_) (fun h => absurd hBe h)
    repeat ((conv => whnf); first | with_reducible refine O_step ?_ | with_reducible refine S_step ?_ | with_reducible refine D_step ?_ | with_reducible refine RO.exit ?_ | with_reducible refine RO.ret ?_ | ((with_reducible refine And.intro ?sc ?_); case sc => exact side) | ((with_reducible refine br_f ?sc ?_); case sc => exact sideB) | ((with_reducible refine br_t ?sc ?_); case sc => exact sideB))
    refine syms_at [.one true 0 (.tab 2 4 (fun j => fixR.getD j []) 4), .one true gl (.ints .u8 fixA cl), mapO (layM (allT fixA) []), tabO 6, .one true 0 (.ints .u8 [5] 1), .one true 0 (.ints .u8 fixB 32), mapO (layM (allT fixB) []), tabO 10] 2 6 rfl rfl rfl rfl rfl ok hb (keyOk_all _) (keyOk_all _) (symLt_all (N := 2000) (by omega)) (symLt_all (N := 2000) (by decide)) (by unfold FU; omega) hR (fun g' c' s' h k l => ?_) (fun e g' c' s' h => ?_)
    · repeat ((conv => whnf); first | with_reducible refine O_step ?_ | with_reducible refine S_step ?_ | with_reducible refine D_step ?_ | with_reducible refine RO.exit ?_ | with_reducible refine RO.ret ?_ | ((with_reducible refine And.intro ?sc ?_); case sc => exact side) | ((with_reducible refine br_f ?sc ?_); case sc => exact sideB) | ((with_reducible refine br_t ?sc ?_); case sc => exact sideB))
      exact Exists.intro (zH lim gb cb xs g' c' s') (And.intro (And.intro rfl (And.intro rfl (And.intro rfl (And.intro rfl (trivial))))) (And.intro zH_nb (And.intro rfl (h0 g' c' s' h k l))))
    · exact Exists.intro (zH lim gb cb xs g' c' s') (And.intro (And.intro rfl (And.intro rfl (And.intro rfl (And.intro rfl (trivial))))) (And.intro zH_nb (And.intro rfl (h1 e g' c' s' h))))
end

end Go.Proofs.Yteinenklppbjkaa
