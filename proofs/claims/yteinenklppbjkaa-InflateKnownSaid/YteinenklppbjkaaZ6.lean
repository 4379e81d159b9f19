/- Layer 8: lengths. -/
import Derived.Test.YteinenklppbjkaaZ5

import Derived.Test.YteinenklppbjkaaGx


set_option linter.unusedVariables false

set_option linter.unusedSimpArgs false

open Go.RowKit

namespace Go.Proofs.Yteinenklppbjkaa

set_option maxRecDepth 10000

/-- Lengths, so many of them. -/
def pLens (T : List ((Int × Int) × Int)) (n : Nat) : Nat → List Int → DP (List Int)
  | 0, l => .ret l
  | f + 1, l => if n ≤ l.length then .ret l else (tSym T).bind fun v => if v < 16 then pLens T n f (l ++ [v]) else
      (if v = 16 then (if l = [] then .fail 80 else .get 2 fun k => .ret (l.getD (l.length - 1) 0, 3 + k)) else if v = 17 then .get 3 fun k => .ret (0, 3 + k) else .get 7 fun k => .ret (0, 11 + k) : DP (Int × Int)).bind fun r =>
        if (n : Int) - l.length < r.2 then .fail 80 else pLens T n f (l ++ List.replicate r.2.toNat r.1)
section

variable {K Kp : AV → AH → Prop} {xs : List Int} {lim gb cb g c : Nat} {s : DS}

/-- As symbol_at, told of a tree. -/
theorem symbol_d (E : AH) (i : Nat) {es : List ((Int × Int) × Int)} {N : Int} {α : Type} {k : Int → DP α} {R : Except Int (α × DS)} (hR : ((tSym es).bind k).run (unpack xs) lim s = R) (hi1 : E[i]? = some (mapO es)) (hi2 : E[i + 1]? = some (tabO (i + 4))) (ok : ZOk xs lim c s) (hes : keyOk es) (hN : symLt N es)
    (hap : (apartT [.own 0, .own 1, .own 2, .own 3, .own (i + 4), .own (i + 5)] && AV.w0l [.own 0, .own 1, .own 2, .own 3, .own (i + 4), .own (i + 5)] [.ptr 0 0 0, .ptr 5 0 0]) = true)
    (h0 : ∀ v s', 0 ≤ v → v < N → s'.out = s.out → ZOk xs lim c s' → (k v).run (unpack xs) lim s' = R → K (.int .i64 v) (zH lim gb cb xs g c s' ++ E))
    (h1 : ∀ e s', R = .error e → Kp (faultV e) (zH lim gb cb xs g c s' ++ E)) :
    CallA Try.prog 50 [.ptr 0 0 0, .ptr (i + 5) 0 0] (zH lim gb cb xs g c s ++ E) K Kp := by
  rw [DP.run_bind] at hR
  refine symbol_at E i hi1 hi2 ok hes hap (fun v s' h ok' => ?_) (fun e s' h => ?_)
  · rw [h] at hR
    obtain ⟨b1, b2⟩ := tSym_lt hN h
    exact h0 v s' b1 b2 (tSym_out h) ok' hR
  · rw [h] at hR
    exact h1 e s' hR.symm
def zH6 (lim gb cb : Nat) (xs : List Int) (T : List ((Int × Int) × Int)) (g c : Nat) (s : DS) : AH := zH lim gb cb xs g c s ++ [mapO T, tabO 4]
def zH7 (lim gb cb : Nat) (xs : List Int) (T : List ((Int × Int) × Int)) (g c : Nat) (s : DS) (gl cl : Nat) (l : List Int) : AH := zH lim gb cb xs g c s ++ [mapO T, tabO 4, .one true gl (.ints .u8 l cl)]
theorem zH6_nb {T : List ((Int × Int) × Int)} : nbH 6 (zH6 lim gb cb xs T g c s) := ⟨by simp [Cont.nb, AV.nbl, AV.nb, AO.nb], rfl, trivial, trivial, mz_nb _ (.pair .i64 .i64) _, rfl, trivial⟩
theorem zH7_nb {T : List ((Int × Int) × Int)} {gl cl : Nat} {l : List Int} : nbH 7 (zH7 lim gb cb xs T g c s gl cl l) := ⟨by simp [Cont.nb, AV.nbl, AV.nb, AO.nb], rfl, trivial, trivial, mz_nb _ (.pair .i64 .i64) _, rfl, trivial, trivial⟩
theorem zlengths_call {T : List ((Int × Int) × Int)} {n f0 : Nat} (ok : ZOk xs lim c s) (hT : keyOk T) (hN : symLt 19 T) (hn : 1 ≤ n ∧ n ≤ 400) (hf : n < f0) {R : Except Int (List Int × DS)} (hR : (pLens T n f0 []).run (unpack xs) lim s = R)
    (h0 : ∀ gl cl l s', R = .ok (l, s') → s'.out = s.out → ZOk xs lim c s' → l.length = n → (∀ x ∈ l, 0 ≤ x ∧ x < 256) → l.length ≤ cl → K (.sl 6 gl 0 l.length cl) (zH7 lim gb cb xs T g c s' gl cl l))
    (h1 : ∀ e s', R = .error e → Kp (faultV e) (zH6 lim gb cb xs T g c s')) :
    CallA Try.prog 36 [.ptr 0 0 0, .ptr 5 0 0, .int .i64 (n : Int)] (zH6 lim gb cb xs T g c s) K Kp := by
  refine CallA.post_sub2 ?_
  refine step36 (fun _ => [7]) [] rfl ?_
  repeat ((conv => whnf); first | with_reducible refine O_step ?_ | with_reducible refine S_step ?_ | with_reducible refine D_step ?_ | with_reducible refine RO.exit ?_ | with_reducible refine RO.ret ?_ | ((with_reducible refine And.intro ?sc ?_); case sc => exact side) | ((with_reducible refine br_f ?sc ?_); case sc => exact sideB) | ((with_reducible refine br_t ?sc ?_); case sc => exact sideB))
  refine WO.gov (σ := Nat × DS × Nat × Nat × List Int) (fun (f, s', gl, cl, l) => s'.out = s.out ∧ ZOk xs lim c s' ∧ l.length ≤ n ∧ l.length ≤ cl ∧ (∀ x ∈ l, 0 ≤ x ∧ x < 256) ∧ n < f + l.length ∧ (pLens T n f l).run (unpack xs) lim s' = R) (fun (f, s', gl, cl, l) => n - l.length)
    (fun (f, s', gl, cl, l) => [(0, .ptr 0 0 0), (1, .ptr 5 0 0), (2, .int .i64 (n : Int)), (7, .sl 6 gl 0 l.length cl)]) (fun (f, s', gl, cl, l) => zH7 lim gb cb xs T g c s' gl cl l) (f0, s, 0, 0, []) tb_ok mixed (by kernel_rfl)
    [(0, .ptr 0 0 0), (1, .ptr 5 0 0), (2, .int .i64 (n : Int)), (7, .ns)] _ ⟨rfl, ok, Nat.zero_le _, Nat.zero_le _, fun x hx => (by cases hx), by omega, hR⟩ (And.intro rfl (And.intro rfl (And.intro rfl (And.intro rfl (trivial))))) rfl
    (Vw.nils (x := .ints .u8 [] 0) ⟨rfl, rfl⟩ (And.intro (.inl rfl) (And.intro (.inl rfl) (And.intro (.inl rfl) (And.intro (.inr ⟨rfl, rfl⟩) trivial))))) (And.intro rfl (And.intro rfl (And.intro rfl (And.intro rfl (And.intro rfl (And.intro rfl (And.intro rfl (trivial)))))))) (fun _ => rfl) (fun _ => rfl) (fun _ => zH7_nb) ?_
  rintro ⟨f, s1, gl, cl, l⟩ ⟨ho, ok1, hl, hcl, hb, hf, hR⟩ d0
  obtain ⟨f, rfl⟩ : ∃ f', f = f' + 1 := ⟨f - 1, by omega⟩
  rw [pLens] at hR
  repeat ((conv => whnf); first | with_reducible refine O_step ?_ | with_reducible refine S_step ?_ | with_reducible refine D_step ?_ | with_reducible refine RO.exit ?_ | with_reducible refine RO.ret ?_ | ((with_reducible refine And.intro ?sc ?_); case sc => exact side) | ((with_reducible refine br_f ?sc ?_); case sc => exact sideB) | ((with_reducible refine br_t ?sc ?_); case sc => exact sideB))
  refine And.intro (fun hc => ?_) (fun hc => ?_)
  · have hlt : ¬ n ≤ l.length := by simp only [decide_eq_true_eq] at hc; omega
    rw [if_neg hlt] at hR
    repeat ((conv => whnf); first | with_reducible refine O_step ?_ | with_reducible refine S_step ?_ | with_reducible refine D_step ?_ | with_reducible refine RO.exit ?_ | with_reducible refine RO.ret ?_ | ((with_reducible refine And.intro ?sc ?_); case sc => exact side) | ((with_reducible refine br_f ?sc ?_); case sc => exact sideB) | ((with_reducible refine br_t ?sc ?_); case sc => exact sideB))
    refine symbol_d [mapO T, tabO 4, .one true gl (.ints .u8 l cl)] 0 hR rfl rfl ok1 hT hN rfl (fun v s2 hv hv2 ho2 ok2 hR => ?_) (fun e s' h => ?_)
    · repeat ((conv => whnf); first | with_reducible refine O_step ?_ | with_reducible refine S_step ?_ | with_reducible refine D_step ?_ | with_reducible refine RO.exit ?_ | with_reducible refine RO.ret ?_ | ((with_reducible refine And.intro ?sc ?_); case sc => exact side) | ((with_reducible refine br_f ?sc ?_); case sc => exact sideB) | ((with_reducible refine br_t ?sc ?_); case sc => exact sideB))
      refine And.intro (fun hc => ?_) (fun hc => ?_)
      · have h16 : v < 16 := by simpa using hc
        rw [if_pos h16] at hR
        have e1 : v % 256 = v := by omega
        repeat ((conv => whnf); first | with_reducible refine O_step ?_ | with_reducible refine S_step ?_ | with_reducible refine D_step ?_ | with_reducible refine RO.exit ?_ | with_reducible refine RO.ret ?_ | ((with_reducible refine And.intro ?sc ?_); case sc => exact side) | ((with_reducible refine br_f ?sc ?_); case sc => exact sideB) | ((with_reducible refine br_t ?sc ?_); case sc => exact sideB))
        rw [e1]
        repeat ((conv => whnf); first | with_reducible refine O_step ?_ | with_reducible refine S_step ?_ | with_reducible refine D_step ?_ | with_reducible refine RO.exit ?_ | with_reducible refine RO.ret ?_ | ((with_reducible refine And.intro ?sc ?_); case sc => exact side) | ((with_reducible refine br_f ?sc ?_); case sc => exact sideB) | ((with_reducible refine br_t ?sc ?_); case sc => exact sideB))
        intro zs hzs
        obtain rfl : zs = [v] := by rw [hzs]; rfl
        repeat ((conv => whnf); first | with_reducible refine O_step ?_ | with_reducible refine S_step ?_ | with_reducible refine D_step ?_ | with_reducible refine RO.exit ?_ | with_reducible refine RO.ret ?_ | ((with_reducible refine And.intro ?sc ?_); case sc => exact side) | ((with_reducible refine br_f ?sc ?_); case sc => exact sideB) | ((with_reducible refine br_t ?sc ?_); case sc => exact sideB))
        intro c4 hc4
        have hc4' : l.length + 1 ≤ c4 := hc4
        have hb2 : ∀ x ∈ l ++ [v], 0 ≤ x ∧ x < 256 := by
          intro x hx
          rcases List.mem_append.1 hx with hx | hx
          · exact hb x hx
          · rw [List.mem_singleton.1 hx]; omega
        have hl2 : (l ++ [v]).length = l.length + 1 := by rw [List.length_append]; rfl
        repeat ((conv => whnf); first | with_reducible refine O_step ?_ | with_reducible refine S_step ?_ | with_reducible refine D_step ?_ | with_reducible refine RO.exit ?_ | with_reducible refine RO.ret ?_ | ((with_reducible refine And.intro ?sc ?_); case sc => exact side) | ((with_reducible refine br_f ?sc ?_); case sc => exact sideB) | ((with_reducible refine br_t ?sc ?_); case sc => exact sideB))
        refine RO.same (f, s2, gl + 1, c4, l ++ [v]) ⟨by rw [ho2, ho], ok2, by rw [hl2]; omega, by rw [hl2]; exact hc4', hb2, by rw [hl2]; omega, hR⟩ (show n - (l ++ [v]).length < n - l.length by rw [hl2]; omega) (And.intro rfl (And.intro rfl (And.intro rfl (And.intro ?_ trivial)))) (And.intro rfl (And.intro rfl (And.intro rfl (And.intro rfl (And.intro rfl (And.intro rfl (And.intro rfl (trivial))))))))
        show AV.sl 6 (gl + 1) 0 (l.length + 1) c4 = AV.sl 6 (gl + 1) 0 (l ++ [v]).length c4
        rw [hl2]
      have h16 : ¬ v < 16 := by simpa using hc
      rw [if_neg h16] at hR
      obtain rfl | rfl | rfl : v = 16 ∨ v = 17 ∨ v = 18 := by omega
      · rw [if_pos rfl] at hR
        repeat ((conv => whnf); first | with_reducible refine O_step ?_ | with_reducible refine S_step ?_ | with_reducible refine D_step ?_ | with_reducible refine RO.exit ?_ | with_reducible refine RO.ret ?_ | ((with_reducible refine And.intro ?sc ?_); case sc => exact side) | ((with_reducible refine br_f ?sc ?_); case sc => exact sideB) | ((with_reducible refine br_t ?sc ?_); case sc => exact sideB))
        refine And.intro (fun hc => ?_) (fun hc => ?_)
        · have he : l = [] := by simpa using hc
          rw [if_pos he] at hR
          repeat ((conv => whnf); first | with_reducible refine O_step ?_ | with_reducible refine S_step ?_ | with_reducible refine D_step ?_ | with_reducible refine RO.exit ?_ | with_reducible refine RO.ret ?_ | ((with_reducible refine And.intro ?sc ?_); case sc => exact side) | ((with_reducible refine br_f ?sc ?_); case sc => exact sideB) | ((with_reducible refine br_t ?sc ?_); case sc => exact sideB))
          refine must_at (fun h => absurd h (by decide)) (fun _ => ?_)
          exact Exists.intro (zH6 lim gb cb xs T g c s2) (And.intro (And.intro rfl (And.intro rfl (And.intro rfl (And.intro rfl (And.intro rfl (And.intro rfl (trivial))))))) (And.intro zH6_nb (And.intro rfl (h1 80 s2 hR.symm))))
        have he : ¬ l = [] := by simpa using hc
        have hlp : 1 ≤ l.length := by cases l with | nil => exact absurd rfl he | cons x l => simp
        rw [if_neg he] at hR
        obtain ⟨y, hy⟩ : ∃ y, l.getD (l.length - 1) 0 = y := ⟨_, rfl⟩
        have hyb : 0 ≤ y ∧ y < 256 := by
          rw [← hy, List.getD_eq_getElem?_getD, List.getElem?_eq_getElem (by omega), Option.getD_some]
          exact hb _ (List.getElem_mem _)
        have e6 : ((l.length : Int) - 1).toNat + 0 = l.length - 1 := by omega
        rw [hy] at hR
        repeat ((conv => whnf); first | with_reducible refine O_step ?_ | with_reducible refine S_step ?_ | with_reducible refine D_step ?_ | with_reducible refine RO.exit ?_ | with_reducible refine RO.ret ?_ | ((with_reducible refine And.intro ?sc ?_); case sc => exact side) | ((with_reducible refine br_f ?sc ?_); case sc => exact sideB) | ((with_reducible refine br_t ?sc ?_); case sc => exact sideB))
        rw [e6, hy]
        refine number_d [mapO T, tabO 4, .one true gl (.ints .u8 l cl), .one true 0 (.cells [.int .i64 2, .int .i64 3])] (n := 2) hR ok2 (by omega) (fun v s3 hv3 ho3 ha3 ok3 hR => ?_) (fun h => Exists.intro (zH6 lim gb cb xs T g c s2) (And.intro (And.intro rfl (And.intro rfl (And.intro rfl (And.intro rfl (And.intro rfl (And.intro rfl (trivial))))))) (And.intro zH6_nb (And.intro rfl (h1 50 s2 h)))))
        rw [DP.bind] at hR
        simp only at hR
        repeat ((conv => whnf); first | with_reducible refine O_step ?_ | with_reducible refine S_step ?_ | with_reducible refine D_step ?_ | with_reducible refine RO.exit ?_ | with_reducible refine RO.ret ?_ | ((with_reducible refine And.intro ?sc ?_); case sc => exact side) | ((with_reducible refine br_f ?sc ?_); case sc => exact sideB) | ((with_reducible refine br_t ?sc ?_); case sc => exact sideB))
        refine And.intro (fun hc => ?_) (fun hc => ?_)
        · have hg : (n : Int) - l.length < 3 + v := by simpa using hc
          rw [if_pos hg] at hR
          repeat ((conv => whnf); first | with_reducible refine O_step ?_ | with_reducible refine S_step ?_ | with_reducible refine D_step ?_ | with_reducible refine RO.exit ?_ | with_reducible refine RO.ret ?_ | ((with_reducible refine And.intro ?sc ?_); case sc => exact side) | ((with_reducible refine br_f ?sc ?_); case sc => exact sideB) | ((with_reducible refine br_t ?sc ?_); case sc => exact sideB))
          refine must_at (fun h => absurd h (by decide)) (fun _ => ?_)
          exact Exists.intro (zH6 lim gb cb xs T g c s3) (And.intro (And.intro rfl (And.intro rfl (And.intro rfl (And.intro rfl (And.intro rfl (And.intro rfl (trivial))))))) (And.intro zH6_nb (And.intro rfl (h1 80 s3 hR.symm))))
        have hg : ¬ (n : Int) - l.length < 3 + v := by simpa using hc
        obtain ⟨k, hk⟩ : ∃ k : Nat, 3 + (v : Int) = (k : Int) := ⟨3 + v, by push_cast; rfl⟩
        rw [if_neg hg, hk, Int.toNat_natCast] at hR
        have hk2 : 1 ≤ k ∧ k ≤ 65536 := by omega
        repeat ((conv => whnf); first | with_reducible refine O_step ?_ | with_reducible refine S_step ?_ | with_reducible refine D_step ?_ | with_reducible refine RO.exit ?_ | with_reducible refine RO.ret ?_ | ((with_reducible refine And.intro ?sc ?_); case sc => exact side) | ((with_reducible refine br_f ?sc ?_); case sc => exact sideB) | ((with_reducible refine br_t ?sc ?_); case sc => exact sideB))
        rw [hk]
        refine repeat8_at (i := 8) rfl hk2 hyb ?_
        repeat ((conv => whnf); first | with_reducible refine O_step ?_ | with_reducible refine S_step ?_ | with_reducible refine D_step ?_ | with_reducible refine RO.exit ?_ | with_reducible refine RO.ret ?_ | ((with_reducible refine And.intro ?sc ?_); case sc => exact side) | ((with_reducible refine br_f ?sc ?_); case sc => exact sideB) | ((with_reducible refine br_t ?sc ?_); case sc => exact sideB))
        intro zs hzs
        obtain rfl : zs = List.replicate k y := by rw [hzs]; simp
        have hkr : (List.replicate k y).length = k := List.length_replicate ..
        repeat ((conv => whnf); first | with_reducible refine O_step ?_ | with_reducible refine S_step ?_ | with_reducible refine D_step ?_ | with_reducible refine RO.exit ?_ | with_reducible refine RO.ret ?_ | ((with_reducible refine And.intro ?sc ?_); case sc => exact side) | ((with_reducible refine br_f ?sc ?_); case sc => exact sideB) | ((with_reducible refine br_t ?sc ?_); case sc => exact sideB))
        intro c4 hc4
        have hc4' : l.length + k ≤ c4 := hc4
        have hb2 : ∀ x ∈ l ++ List.replicate k y, 0 ≤ x ∧ x < 256 := by
          intro x hx
          rcases List.mem_append.1 hx with hx | hx
          · exact hb x hx
          · rw [List.eq_of_mem_replicate hx]; exact hyb
        have hl2 : (l ++ List.replicate k y).length = l.length + k := by rw [List.length_append, List.length_replicate]
        repeat ((conv => whnf); first | with_reducible refine O_step ?_ | with_reducible refine S_step ?_ | with_reducible refine D_step ?_ | with_reducible refine RO.exit ?_ | with_reducible refine RO.ret ?_ | ((with_reducible refine And.intro ?sc ?_); case sc => exact side) | ((with_reducible refine br_f ?sc ?_); case sc => exact sideB) | ((with_reducible refine br_t ?sc ?_); case sc => exact sideB))
        refine RO.same (f, s3, gl + 1, c4, l ++ List.replicate k y) ⟨by rw [ho3, ho2, ho], ok3, by rw [hl2]; omega, by rw [hl2]; exact hc4', hb2, by rw [hl2]; omega, hR⟩ (show n - (l ++ List.replicate k y).length < n - l.length by rw [hl2]; omega) (And.intro rfl (And.intro rfl (And.intro rfl (And.intro ?_ trivial)))) (And.intro rfl (And.intro rfl (And.intro rfl (And.intro rfl (And.intro rfl (And.intro rfl (And.intro rfl (trivial))))))))
        show AV.sl 6 (gl + 1) 0 (l.length + k) c4 = AV.sl 6 (gl + 1) 0 (l ++ List.replicate k y).length c4
        rw [hl2]
      · rw [if_neg (by decide), if_pos rfl] at hR
        repeat ((conv => whnf); first | with_reducible refine O_step ?_ | with_reducible refine S_step ?_ | with_reducible refine D_step ?_ | with_reducible refine RO.exit ?_ | with_reducible refine RO.ret ?_ | ((with_reducible refine And.intro ?sc ?_); case sc => exact side) | ((with_reducible refine br_f ?sc ?_); case sc => exact sideB) | ((with_reducible refine br_t ?sc ?_); case sc => exact sideB))
        refine number_d [mapO T, tabO 4, .one true gl (.ints .u8 l cl), .one true 0 (.cells [.int .i64 3, .int .i64 3])] (n := 3) hR ok2 (by omega) (fun v s3 hv3 ho3 ha3 ok3 hR => ?_) (fun h => Exists.intro (zH6 lim gb cb xs T g c s2) (And.intro (And.intro rfl (And.intro rfl (And.intro rfl (And.intro rfl (And.intro rfl (And.intro rfl (trivial))))))) (And.intro zH6_nb (And.intro rfl (h1 50 s2 h)))))
        rw [DP.bind] at hR
        simp only at hR
        repeat ((conv => whnf); first | with_reducible refine O_step ?_ | with_reducible refine S_step ?_ | with_reducible refine D_step ?_ | with_reducible refine RO.exit ?_ | with_reducible refine RO.ret ?_ | ((with_reducible refine And.intro ?sc ?_); case sc => exact side) | ((with_reducible refine br_f ?sc ?_); case sc => exact sideB) | ((with_reducible refine br_t ?sc ?_); case sc => exact sideB))
        refine And.intro (fun hc => ?_) (fun hc => ?_)
        · have hg : (n : Int) - l.length < 3 + v := by simpa using hc
          rw [if_pos hg] at hR
          repeat ((conv => whnf); first | with_reducible refine O_step ?_ | with_reducible refine S_step ?_ | with_reducible refine D_step ?_ | with_reducible refine RO.exit ?_ | with_reducible refine RO.ret ?_ | ((with_reducible refine And.intro ?sc ?_); case sc => exact side) | ((with_reducible refine br_f ?sc ?_); case sc => exact sideB) | ((with_reducible refine br_t ?sc ?_); case sc => exact sideB))
          refine must_at (fun h => absurd h (by decide)) (fun _ => ?_)
          exact Exists.intro (zH6 lim gb cb xs T g c s3) (And.intro (And.intro rfl (And.intro rfl (And.intro rfl (And.intro rfl (And.intro rfl (And.intro rfl (trivial))))))) (And.intro zH6_nb (And.intro rfl (h1 80 s3 hR.symm))))
        have hg : ¬ (n : Int) - l.length < 3 + v := by simpa using hc
        obtain ⟨k, hk⟩ : ∃ k : Nat, 3 + (v : Int) = (k : Int) := ⟨3 + v, by push_cast; rfl⟩
        rw [if_neg hg, hk, Int.toNat_natCast] at hR
        have hk2 : 1 ≤ k ∧ k ≤ 65536 := by omega
        repeat ((conv => whnf); first | with_reducible refine O_step ?_ | with_reducible refine S_step ?_ | with_reducible refine D_step ?_ | with_reducible refine RO.exit ?_ | with_reducible refine RO.ret ?_ | ((with_reducible refine And.intro ?sc ?_); case sc => exact side) | ((with_reducible refine br_f ?sc ?_); case sc => exact sideB) | ((with_reducible refine br_t ?sc ?_); case sc => exact sideB))
        rw [hk]
        refine repeat8_at (i := 8) rfl hk2 (by decide) ?_
        repeat ((conv => whnf); first | with_reducible refine O_step ?_ | with_reducible refine S_step ?_ | with_reducible refine D_step ?_ | with_reducible refine RO.exit ?_ | with_reducible refine RO.ret ?_ | ((with_reducible refine And.intro ?sc ?_); case sc => exact side) | ((with_reducible refine br_f ?sc ?_); case sc => exact sideB) | ((with_reducible refine br_t ?sc ?_); case sc => exact sideB))
        intro zs hzs
        obtain rfl : zs = List.replicate k (0 : Int) := by rw [hzs]; simp
        have hkr : (List.replicate k (0 : Int)).length = k := List.length_replicate ..
        repeat ((conv => whnf); first | with_reducible refine O_step ?_ | with_reducible refine S_step ?_ | with_reducible refine D_step ?_ | with_reducible refine RO.exit ?_ | with_reducible refine RO.ret ?_ | ((with_reducible refine And.intro ?sc ?_); case sc => exact side) | ((with_reducible refine br_f ?sc ?_); case sc => exact sideB) | ((with_reducible refine br_t ?sc ?_); case sc => exact sideB))
        intro c4 hc4
        have hc4' : l.length + k ≤ c4 := hc4
        have hb2 : ∀ x ∈ l ++ List.replicate k (0 : Int), 0 ≤ x ∧ x < 256 := by
          intro x hx
          rcases List.mem_append.1 hx with hx | hx
          · exact hb x hx
          · rw [List.eq_of_mem_replicate hx]; exact (by decide)
        have hl2 : (l ++ List.replicate k (0 : Int)).length = l.length + k := by rw [List.length_append, List.length_replicate]
        repeat ((conv => whnf); first | with_reducible refine O_step ?_ | with_reducible refine S_step ?_ | with_reducible refine D_step ?_ | with_reducible refine RO.exit ?_ | with_reducible refine RO.ret ?_ | ((with_reducible refine And.intro ?sc ?_); case sc => exact side) | ((with_reducible refine br_f ?sc ?_); case sc => exact sideB) | ((with_reducible refine br_t ?sc ?_); case sc => exact sideB))
        refine RO.same (f, s3, gl + 1, c4, l ++ List.replicate k (0 : Int)) ⟨by rw [ho3, ho2, ho], ok3, by rw [hl2]; omega, by rw [hl2]; exact hc4', hb2, by rw [hl2]; omega, hR⟩ (show n - (l ++ List.replicate k (0 : Int)).length < n - l.length by rw [hl2]; omega) (And.intro rfl (And.intro rfl (And.intro rfl (And.intro ?_ trivial)))) (And.intro rfl (And.intro rfl (And.intro rfl (And.intro rfl (And.intro rfl (And.intro rfl (And.intro rfl (trivial))))))))
        show AV.sl 6 (gl + 1) 0 (l.length + k) c4 = AV.sl 6 (gl + 1) 0 (l ++ List.replicate k (0 : Int)).length c4
        rw [hl2]
      · rw [if_neg (by decide), if_neg (by decide)] at hR
        repeat ((conv => whnf); first | with_reducible refine O_step ?_ | with_reducible refine S_step ?_ | with_reducible refine D_step ?_ | with_reducible refine RO.exit ?_ | with_reducible refine RO.ret ?_ | ((with_reducible refine And.intro ?sc ?_); case sc => exact side) | ((with_reducible refine br_f ?sc ?_); case sc => exact sideB) | ((with_reducible refine br_t ?sc ?_); case sc => exact sideB))
        refine number_d [mapO T, tabO 4, .one true gl (.ints .u8 l cl), .one true 0 (.cells [.int .i64 7, .int .i64 11])] (n := 7) hR ok2 (by omega) (fun v s3 hv3 ho3 ha3 ok3 hR => ?_) (fun h => Exists.intro (zH6 lim gb cb xs T g c s2) (And.intro (And.intro rfl (And.intro rfl (And.intro rfl (And.intro rfl (And.intro rfl (And.intro rfl (trivial))))))) (And.intro zH6_nb (And.intro rfl (h1 50 s2 h)))))
        rw [DP.bind] at hR
        simp only at hR
        repeat ((conv => whnf); first | with_reducible refine O_step ?_ | with_reducible refine S_step ?_ | with_reducible refine D_step ?_ | with_reducible refine RO.exit ?_ | with_reducible refine RO.ret ?_ | ((with_reducible refine And.intro ?sc ?_); case sc => exact side) | ((with_reducible refine br_f ?sc ?_); case sc => exact sideB) | ((with_reducible refine br_t ?sc ?_); case sc => exact sideB))
        refine And.intro (fun hc => ?_) (fun hc => ?_)
        · have hg : (n : Int) - l.length < 11 + v := by simpa using hc
          rw [if_pos hg] at hR
          repeat ((conv => whnf); first | with_reducible refine O_step ?_ | with_reducible refine S_step ?_ | with_reducible refine D_step ?_ | with_reducible refine RO.exit ?_ | with_reducible refine RO.ret ?_ | ((with_reducible refine And.intro ?sc ?_); case sc => exact side) | ((with_reducible refine br_f ?sc ?_); case sc => exact sideB) | ((with_reducible refine br_t ?sc ?_); case sc => exact sideB))
          refine must_at (fun h => absurd h (by decide)) (fun _ => ?_)
          exact Exists.intro (zH6 lim gb cb xs T g c s3) (And.intro (And.intro rfl (And.intro rfl (And.intro rfl (And.intro rfl (And.intro rfl (And.intro rfl (trivial))))))) (And.intro zH6_nb (And.intro rfl (h1 80 s3 hR.symm))))
        have hg : ¬ (n : Int) - l.length < 11 + v := by simpa using hc
        obtain ⟨k, hk⟩ : ∃ k : Nat, 11 + (v : Int) = (k : Int) := ⟨11 + v, by push_cast; rfl⟩
        rw [if_neg hg, hk, Int.toNat_natCast] at hR
        have hk2 : 1 ≤ k ∧ k ≤ 65536 := by omega
        repeat ((conv => whnf); first | with_reducible refine O_step ?_ | with_reducible refine S_step ?_ | with_reducible refine D_step ?_ | with_reducible refine RO.exit ?_ | with_reducible refine RO.ret ?_ | ((with_reducible refine And.intro ?sc ?_); case sc => exact side) | ((with_reducible refine br_f ?sc ?_); case sc => exact sideB) | ((with_reducible refine br_t ?sc ?_); case sc => exact sideB))
        rw [hk]
        refine repeat8_at (i := 8) rfl hk2 (by decide) ?_
        repeat ((conv => whnf); first | with_reducible refine O_step ?_ | with_reducible refine S_step ?_ | with_reducible refine D_step ?_ | with_reducible refine RO.exit ?_ | with_reducible refine RO.ret ?_ | ((with_reducible refine And.intro ?sc ?_); case sc => exact side) | ((with_reducible refine br_f ?sc ?_); case sc => exact sideB) | ((with_reducible refine br_t ?sc ?_); case sc => exact sideB))
        intro zs hzs
        obtain rfl : zs = List.replicate k (0 : Int) := by rw [hzs]; simp
        have hkr : (List.replicate k (0 : Int)).length = k := List.length_replicate ..
        repeat ((conv => whnf); first | with_reducible refine O_step ?_ | with_reducible refine S_step ?_ | with_reducible refine D_step ?_ | with_reducible refine RO.exit ?_ | with_reducible refine RO.ret ?_ | ((with_reducible refine And.intro ?sc ?_); case sc => exact side) | ((with_reducible refine br_f ?sc ?_); case sc => exact sideB) | ((with_reducible refine br_t ?sc ?_); case sc => exact sideB))
        intro c4 hc4
        have hc4' : l.length + k ≤ c4 := hc4
        have hb2 : ∀ x ∈ l ++ List.replicate k (0 : Int), 0 ≤ x ∧ x < 256 := by
          intro x hx
          rcases List.mem_append.1 hx with hx | hx
          · exact hb x hx
          · rw [List.eq_of_mem_replicate hx]; exact (by decide)
        have hl2 : (l ++ List.replicate k (0 : Int)).length = l.length + k := by rw [List.length_append, List.length_replicate]
        repeat ((conv => whnf); first | with_reducible refine O_step ?_ | with_reducible refine S_step ?_ | with_reducible refine D_step ?_ | with_reducible refine RO.exit ?_ | with_reducible refine RO.ret ?_ | ((with_reducible refine And.intro ?sc ?_); case sc => exact side) | ((with_reducible refine br_f ?sc ?_); case sc => exact sideB) | ((with_reducible refine br_t ?sc ?_); case sc => exact sideB))
        refine RO.same (f, s3, gl + 1, c4, l ++ List.replicate k (0 : Int)) ⟨by rw [ho3, ho2, ho], ok3, by rw [hl2]; omega, by rw [hl2]; exact hc4', hb2, by rw [hl2]; omega, hR⟩ (show n - (l ++ List.replicate k (0 : Int)).length < n - l.length by rw [hl2]; omega) (And.intro rfl (And.intro rfl (And.intro rfl (And.intro ?_ trivial)))) (And.intro rfl (And.intro rfl (And.intro rfl (And.intro rfl (And.intro rfl (And.intro rfl (And.intro rfl (trivial))))))))
        show AV.sl 6 (gl + 1) 0 (l.length + k) c4 = AV.sl 6 (gl + 1) 0 (l ++ List.replicate k (0 : Int)).length c4
        rw [hl2]
    · exact Exists.intro (zH6 lim gb cb xs T g c s') (And.intro (And.intro rfl (And.intro rfl (And.intro rfl (And.intro rfl (And.intro rfl (And.intro rfl (trivial))))))) (And.intro zH6_nb (And.intro rfl (h1 e s' h))))
  · have hge : n ≤ l.length := by simp only [decide_eq_false_iff_not] at hc; omega
    rw [if_pos hge, DP.run] at hR
    repeat ((conv => whnf); first | with_reducible refine O_step ?_ | with_reducible refine S_step ?_ | with_reducible refine D_step ?_ | with_reducible refine RO.exit ?_ | with_reducible refine RO.ret ?_ | ((with_reducible refine And.intro ?sc ?_); case sc => exact side) | ((with_reducible refine br_f ?sc ?_); case sc => exact sideB) | ((with_reducible refine br_t ?sc ?_); case sc => exact sideB))
    exact Exists.intro (zH7 lim gb cb xs T g c s1 gl cl l) (And.intro (And.intro rfl (And.intro rfl (And.intro rfl (And.intro rfl (And.intro rfl (And.intro rfl (And.intro rfl (trivial)))))))) (And.intro zH7_nb (And.intro rfl (h0 gl cl l s1 hR.symm ho ok1 (by omega) hb hcl))))
end

end Go.Proofs.Yteinenklppbjkaa
