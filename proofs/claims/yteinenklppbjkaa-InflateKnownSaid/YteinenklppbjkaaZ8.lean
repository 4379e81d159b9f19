/- Layer 8: a dynamic block. -/
import Derived.Test.YteinenklppbjkaaZ7

set_option linter.unusedVariables false

set_option linter.unusedSimpArgs false

open Go.RowKit

namespace Go.Proofs.Yteinenklppbjkaa

set_option maxRecDepth 10000

def ordL : List Nat := [16, 17, 18, 0, 8, 7, 9, 6, 10, 5, 11, 4, 12, 3, 13, 2, 14, 1, 15]
def pOrd : Nat → Nat → List Int → DP (List Int)
  | 0, _, ls => .ret ls
  | n + 1, i, ls => .get 3 fun v => pOrd n (i + 1) (ls.set (ordL.getD i 0) v)
/-- A dynamic block. -/
def pDyn : DP Unit := .get 5 fun a => .get 5 fun b => .get 4 fun c => if 286 < a + 257 ∨ 30 < b + 1 then .fail 80 else
  (pOrd (c.toNat + 4) 0 (List.replicate 19 0)).bind fun ls => (pTab ls).bind fun T => (pLens T (a.toNat + 257 + (b.toNat + 1)) 401 []).bind fun l => if l.getD 256 0 = 0 then .fail 80 else
    (pTab (l.take (a.toNat + 257))).bind fun A => (pTab (l.drop (a.toNat + 257))).bind fun B => pSyms A B FU
section

variable {K Kp : AV → AH → Prop} {xs : List Int} {lim gb cb g c : Nat} {s : DS}

theorem table_win {M : AH} {i g off n c0 co : Nat} {o : Bool} {ls ys : List Int} (hi : M[i]? = some (.one o g (.ints .u8 ys co))) (hn : n = ls.length) (hy : ls = (ys.drop off).take ls.length) (hc : off + ls.length ≤ co) (hl : ls.length ≤ 2000) (hu : ∀ x ∈ ls, 0 ≤ x ∧ x < 256)
    (h0 : eachE ls = 0 → K (.ptr (M.length + 1) 0 0) (M ++ [mapO (layM (allT ls) []), tabO M.length]))
    (h1 : eachE ls ≠ 0 → Kp (faultV (eachE ls)) M) : CallA Try.prog 35 [.sl i g off n c0] M K Kp := by
  subst hn
  refine CallA.lift [.win i g off] (table_call (ls := ls) (c0 := c0) (c := ls.length) (K := fun r M => eachE ls = 0 ∧ r = .ptr 2 0 0 ∧ M = [.one false 0 (.ints .u8 ls ls.length), mapO (layM (allT ls) []), tabO 1]) (Kp := fun v M => eachE ls ≠ 0 ∧ v = faultV (eachE ls) ∧ M = [.one false 0 (.ints .u8 ls ls.length)]) hl hu (fun h => ⟨h, rfl, rfl⟩) (fun h => ⟨h, rfl, rfl⟩)) (by simp [AV.rnl, AV.rn, rnI, rnG, rnF, TE.i]) rfl ⟨⟨_, _, _, rfl, slot_one hi, WinC.ints hc hy⟩, trivial⟩ ⟨trivial, trivial⟩ ?_ ?_
  · rintro r M' ⟨e, rfl, rfl⟩
    refine ⟨⟨rfl, rfl⟩, ?_⟩
    have := h0 e
    unfold mapO at this
    rw [← mz_rn [.win i g off] M.length (.pair .i64 .i64) (layM (allT ls) [])] at this
    exact this
  · rintro r M' ⟨e, rfl, rfl⟩
    refine ⟨⟨rfl, rfl⟩, ?_⟩
    have := h1 e
    rw [← List.append_nil M] at this
    exact this
/-- As lengths, where other things stand too. -/
theorem zlengths_at (E : AH) (i : Nat) {T : List ((Int × Int) × Int)} {n f0 : Nat} (hi1 : E[i]? = some (mapO T)) (hi2 : E[i + 1]? = some (tabO (i + 4)))
    (hap : (apartT [.own 0, .own 1, .own 2, .own 3, .own (i + 4), .own (i + 5)] && AV.w0l [.own 0, .own 1, .own 2, .own 3, .own (i + 4), .own (i + 5)] [.ptr 0 0 0, .ptr 5 0 0, .int .i64 (n : Int)]) = true)
    (ok : ZOk xs lim c s) (hT : keyOk T) (hN : symLt 19 T) (hn : 1 ≤ n ∧ n ≤ 400) (hf : n < f0) {R : Except Int (List Int × DS)} (hR : (pLens T n f0 []).run (unpack xs) lim s = R)
    (h0 : ∀ gl cl l s', R = .ok (l, s') → s'.out = s.out → ZOk xs lim c s' → l.length = n → (∀ x ∈ l, 0 ≤ x ∧ x < 256) → l.length ≤ cl → K (.sl (E.length + 4) gl 0 l.length cl) (zH lim gb cb xs g c s' ++ (E ++ [.one true gl (.ints .u8 l cl)])))
    (h1 : ∀ e s', R = .error e → Kp (faultV e) (zH lim gb cb xs g c s' ++ E)) :
    CallA Try.prog 36 [.ptr 0 0 0, .ptr (i + 5) 0 0, .int .i64 (n : Int)] (zH lim gb cb xs g c s ++ E) K Kp := by
  have key : ∀ s' X, setH [.own 0, .own 1, .own 2, .own 3, .own (i + 4), .own (i + 5)] (zH lim gb cb xs g c s ++ E).length [.own 0, .own 1, .own 2, .own 3, .own (i + 4), .own (i + 5)] (zH lim gb cb xs g c s' ++ mapO T :: tabO 4 :: X) (zH lim gb cb xs g c s ++ E) = zH lim gb cb xs g c s' ++ (E ++ rnH [.own 0, .own 1, .own 2, .own 3, .own (i + 4), .own (i + 5)] (zH lim gb cb xs g c s ++ E).length X) := by
    intro s' X
    show ((zH lim gb cb xs g c s' ++ E).set (i + 4) (AO.one true 0 ((Cont.map (.pair .i64 .i64) (mzM T)).rn [.own 0, .own 1, .own 2, .own 3, .own (i + 4), .own (i + 5)] (zH lim gb cb xs g c s ++ E).length))).set (i + 5) (tabO (i + 4)) ++ rnH [.own 0, .own 1, .own 2, .own 3, .own (i + 4), .own (i + 5)] (zH lim gb cb xs g c s ++ E).length X = _
    rw [mz_rn]
    show zH lim gb cb xs g c s' ++ ((E.set i (mapO T)).set (i + 1) (tabO (i + 4)) ++ rnH [.own 0, .own 1, .own 2, .own 3, .own (i + 4), .own (i + 5)] (zH lim gb cb xs g c s ++ E).length X) = _
    rw [ssame hi1, ssame hi2]
  refine CallA.lift [.own 0, .own 1, .own 2, .own 3, .own (i + 4), .own (i + 5)] (zlengths_call (K := fun r M => ∃ gl cl l s', r = .sl 6 gl 0 l.length cl ∧ M = zH7 lim gb cb xs T g c s' gl cl l ∧ K (.sl (E.length + 4) gl 0 l.length cl) (zH lim gb cb xs g c s' ++ (E ++ [.one true gl (.ints .u8 l cl)]))) (Kp := fun r M => ∃ e s', r = faultV e ∧ M = zH6 lim gb cb xs T g c s' ∧ Kp r (zH lim gb cb xs g c s' ++ E)) ok hT hN hn hf hR
    (fun gl cl l s' a1 a2 a3 a4 a5 a6 => ⟨gl, cl, l, s', rfl, rfl, h0 gl cl l s' a1 a2 a3 a4 a5 a6⟩) (fun e s' h => ⟨e, s', rfl, rfl, h1 e s' h⟩)) rfl hap
    ⟨⟨rfl, rfl⟩, ⟨rfl, rfl⟩, ⟨rfl, rfl⟩, ⟨rfl, rfl⟩, ⟨?_, rfl⟩, ⟨?_, rfl⟩, trivial⟩ ⟨rfl, rfl, trivial, trivial, mz_w0 _ (.pair .i64 .i64) T, rfl, trivial⟩ ?_ ?_
  · show E[i]? = some (AO.one true 0 ((Cont.map (.pair .i64 .i64) (mzM T)).rn _ _))
    rw [mz_rn]; exact hi1
  · exact hi2
  · rintro r M' ⟨gl, cl, l, s', rfl, rfl, hk⟩
    refine ⟨⟨rfl, rfl, rfl, rfl, rfl, rfl, rfl⟩, ?_⟩
    have := key s' [.one true gl (.ints .u8 l cl)]
    rw [show zH7 lim gb cb xs T g c s' gl cl l = zH lim gb cb xs g c s' ++ mapO T :: tabO 4 :: [.one true gl (.ints .u8 l cl)] from rfl, this]
    exact hk
  · rintro r M' ⟨e, s', rfl, rfl, hk⟩
    refine ⟨⟨rfl, rfl, rfl, rfl, rfl, rfl, rfl⟩, ?_⟩
    have := key s' []
    rw [show zH6 lim gb cb xs T g c s' = zH lim gb cb xs g c s' ++ mapO T :: tabO 4 :: [] from rfl, this]
    show Kp _ (zH lim gb cb xs g c s' ++ (E ++ []))
    rw [List.append_nil]
    exact hk
def zHl (lim gb cb : Nat) (xs : List Int) (g c : Nat) (s : DS) (ls : List Int) : AH := zH lim gb cb xs g c s ++ [.one true 0 (.ints .u8 ls 19)]
theorem zHl_nb {ls : List Int} : nbH 5 (zHl lim gb cb xs g c s ls) := ⟨by simp [Cont.nb, AV.nbl, AV.nb, AO.nb], rfl, trivial, trivial, trivial, trivial⟩
theorem dynamic_call (ok : ZOk xs lim c s) (hb : ∀ x ∈ s.out, 0 ≤ x ∧ x < 256) {R : Except Int (Unit × DS)} (hR : pDyn.run (unpack xs) lim s = R)
    (h0 : ∀ g' c' s', R = .ok ((), s') → ZOk xs lim c' s' → (∀ x ∈ s'.out, 0 ≤ x ∧ x < 256) → K (.tup []) (zH lim gb cb xs g' c' s'))
    (h1 : ∀ e g' c' s', R = .error e → Kp (faultV e) (zH lim gb cb xs g' c' s')) :
    CallA Try.prog 17 [.ptr 0 0 0] (zH lim gb cb xs g c s) K Kp := by
  refine CallA.post_sub2 ?_
  refine step17 (fun _ => []) [] rfl ?_
  unfold pDyn at hR
  repeat ((conv => whnf); first | with_reducible refine O_step ?_ | with_reducible refine S_step ?_ | with_reducible refine D_step ?_ | with_reducible refine RO.exit ?_ | with_reducible refine RO.ret ?_ | ((with_reducible refine And.intro ?sc ?_); case sc => exact side) | ((with_reducible refine br_f ?sc ?_); case sc => exact sideB) | ((with_reducible refine br_t ?sc ?_); case sc => exact sideB))
  refine number_d [] (n := 5) hR ok (by omega) (fun a s1 ha ho1 ha1 ok1 hR => ?_) (fun h => Exists.intro (zH lim gb cb xs g c s) (And.intro (And.intro rfl (And.intro rfl (And.intro rfl (And.intro rfl (trivial))))) (And.intro zH_nb (And.intro rfl (h1 50 g c s h)))))
  repeat ((conv => whnf); first | with_reducible refine O_step ?_ | with_reducible refine S_step ?_ | with_reducible refine D_step ?_ | with_reducible refine RO.exit ?_ | with_reducible refine RO.ret ?_ | ((with_reducible refine And.intro ?sc ?_); case sc => exact side) | ((with_reducible refine br_f ?sc ?_); case sc => exact sideB) | ((with_reducible refine br_t ?sc ?_); case sc => exact sideB))
  refine number_d [] (n := 5) hR ok1 (by omega) (fun b s2 hb2 ho2 ha2 ok2 hR => ?_) (fun h => Exists.intro (zH lim gb cb xs g c s1) (And.intro (And.intro rfl (And.intro rfl (And.intro rfl (And.intro rfl (trivial))))) (And.intro zH_nb (And.intro rfl (h1 50 g c s1 h)))))
  repeat ((conv => whnf); first | with_reducible refine O_step ?_ | with_reducible refine S_step ?_ | with_reducible refine D_step ?_ | with_reducible refine RO.exit ?_ | with_reducible refine RO.ret ?_ | ((with_reducible refine And.intro ?sc ?_); case sc => exact side) | ((with_reducible refine br_f ?sc ?_); case sc => exact sideB) | ((with_reducible refine br_t ?sc ?_); case sc => exact sideB))
  refine number_d [] (n := 4) hR ok2 (by omega) (fun cc s3 hc2 ho3 ha3 ok3 hR => ?_) (fun h => Exists.intro (zH lim gb cb xs g c s2) (And.intro (And.intro rfl (And.intro rfl (And.intro rfl (And.intro rfl (trivial))))) (And.intro zH_nb (And.intro rfl (h1 50 g c s2 h)))))
  simp only [Int.toNat_natCast] at hR
  repeat ((conv => whnf); first | with_reducible refine O_step ?_ | with_reducible refine S_step ?_ | with_reducible refine D_step ?_ | with_reducible refine RO.exit ?_ | with_reducible refine RO.ret ?_ | ((with_reducible refine And.intro ?sc ?_); case sc => exact side) | ((with_reducible refine br_f ?sc ?_); case sc => exact sideB) | ((with_reducible refine br_t ?sc ?_); case sc => exact sideB))
  refine And.intro (fun hA => ?_) (fun hA => ?_)
  · have hA' : (286 : Int) < a + 257 := by simpa using hA
    rw [if_pos (.inl hA')] at hR
    repeat ((conv => whnf); first | with_reducible refine O_step ?_ | with_reducible refine S_step ?_ | with_reducible refine D_step ?_ | with_reducible refine RO.exit ?_ | with_reducible refine RO.ret ?_ | ((with_reducible refine And.intro ?sc ?_); case sc => exact side) | ((with_reducible refine br_f ?sc ?_); case sc => exact sideB) | ((with_reducible refine br_t ?sc ?_); case sc => exact sideB))
    refine must_at (fun h => absurd h (by decide)) (fun _ => ?_)
    exact Exists.intro (zH lim gb cb xs g c s3) (And.intro (And.intro rfl (And.intro rfl (And.intro rfl (And.intro rfl (trivial))))) (And.intro zH_nb (And.intro rfl (h1 80 _ _ _ hR.symm))))
  have hA' : ¬ (286 : Int) < a + 257 := by simpa using hA
  repeat ((conv => whnf); first | with_reducible refine O_step ?_ | with_reducible refine S_step ?_ | with_reducible refine D_step ?_ | with_reducible refine RO.exit ?_ | with_reducible refine RO.ret ?_ | ((with_reducible refine And.intro ?sc ?_); case sc => exact side) | ((with_reducible refine br_f ?sc ?_); case sc => exact sideB) | ((with_reducible refine br_t ?sc ?_); case sc => exact sideB))
  refine And.intro (fun hB => ?_) (fun hB => ?_)
  · have hB' : (30 : Int) < b + 1 := by simpa using hB
    rw [if_pos (.inr hB')] at hR
    repeat ((conv => whnf); first | with_reducible refine O_step ?_ | with_reducible refine S_step ?_ | with_reducible refine D_step ?_ | with_reducible refine RO.exit ?_ | with_reducible refine RO.ret ?_ | ((with_reducible refine And.intro ?sc ?_); case sc => exact side) | ((with_reducible refine br_f ?sc ?_); case sc => exact sideB) | ((with_reducible refine br_t ?sc ?_); case sc => exact sideB))
    refine must_at (fun h => absurd h (by decide)) (fun _ => ?_)
    exact Exists.intro (zH lim gb cb xs g c s3) (And.intro (And.intro rfl (And.intro rfl (And.intro rfl (And.intro rfl (trivial))))) (And.intro zH_nb (And.intro rfl (h1 80 _ _ _ hR.symm))))
  have hB' : ¬ (30 : Int) < b + 1 := by simpa using hB
  rw [if_neg (by rintro (h | h); exact hA' h; exact hB' h), DP.run_bind] at hR
  obtain ⟨R2, hR2⟩ : ∃ R2, (pOrd (cc + 4) 0 (List.replicate 19 0)).run (unpack xs) lim s3 = R2 := ⟨_, rfl⟩
  rw [hR2] at hR
  repeat ((conv => whnf); first | with_reducible refine O_step ?_ | with_reducible refine S_step ?_ | with_reducible refine D_step ?_ | with_reducible refine RO.exit ?_ | with_reducible refine RO.ret ?_ | ((with_reducible refine And.intro ?sc ?_); case sc => exact side) | ((with_reducible refine br_f ?sc ?_); case sc => exact sideB) | ((with_reducible refine br_t ?sc ?_); case sc => exact sideB))
  refine WO.go (σ := Nat × DS × List Int) (fun (i, s', ls) => s'.out = s.out ∧ ZOk xs lim c s' ∧ i ≤ cc + 4 ∧ ls.length = 19 ∧ (∀ x ∈ ls, 0 ≤ x ∧ x < 256) ∧ (pOrd (cc + 4 - i) i ls).run (unpack xs) lim s' = R2) (fun (i, _) => cc + 4 - i)
    (fun (i, _) => [(0, .ptr 0 0 0), (2, .int .i64 ((a : Int) + 257)), (3, .int .i64 ((b : Int) + 1)), (5, .sl 4 0 0 19 19), (25, .int .i64 ((cc : Int) + 4)), (26, .int .i64 (i : Int))]) (fun (i, s', ls) => zHl lim gb cb xs g c s' ls) (0, s3, List.replicate 19 0) tb_ok mixed (by kernel_rfl)
    ⟨by rw [ho3, ho2, ho1], ok3, Nat.zero_le _, by decide, by decide, hR2⟩ (And.intro rfl (And.intro rfl (And.intro rfl (And.intro rfl (And.intro rfl (And.intro rfl (trivial))))))) (And.intro rfl (And.intro rfl (And.intro rfl (And.intro rfl (And.intro rfl (trivial)))))) (fun _ => rfl) (fun _ => rfl) (fun _ => zHl_nb) ?_
  rintro ⟨i, s4, ls⟩ ⟨ho4, ok4, hi, hls, hlb, hR4⟩ d0
  repeat ((conv => whnf); first | with_reducible refine O_step ?_ | with_reducible refine S_step ?_ | with_reducible refine D_step ?_ | with_reducible refine RO.exit ?_ | with_reducible refine RO.ret ?_ | ((with_reducible refine And.intro ?sc ?_); case sc => exact side) | ((with_reducible refine br_f ?sc ?_); case sc => exact sideB) | ((with_reducible refine br_t ?sc ?_); case sc => exact sideB))
  refine And.intro (fun hc => ?_) (fun hc => ?_)
  · have hlt : i < cc + 4 := by simp only [decide_eq_true_eq] at hc; omega
    rw [show cc + 4 - i = cc + 4 - (i + 1) + 1 by omega, pOrd] at hR4
    have hi19 : i < 19 := by omega
    have hsz : ByteArray.size { data := #[16, 17, 18, 0, 8, 7, 9, 6, 10, 5, 11, 4, 12, 3, 13, 2, 14, 1, 15] } = 19 := rfl
    obtain ⟨z, hz⟩ : ∃ z, (({ data := #[16, 17, 18, 0, 8, 7, 9, 6, 10, 5, 11, 4, 12, 3, 13, 2, 14, 1, 15] } : ByteArray).data.toList.getD ((i : Int)).toNat 0).toNat = z := ⟨_, rfl⟩
    have hzo : ordL.getD i 0 = z ∧ z < 19 := by
      have : ∀ i, i < 19 → ordL.getD i 0 = (({ data := #[16, 17, 18, 0, 8, 7, 9, 6, 10, 5, 11, 4, 12, 3, 13, 2, 14, 1, 15] } : ByteArray).data.toList.getD i 0).toNat ∧ ordL.getD i 0 < 19 := by decide
      obtain ⟨k1, k2⟩ := this i hi19
      rw [Int.toNat_natCast] at hz
      rw [hz] at k1
      exact ⟨k1, k1 ▸ k2⟩
    rw [hzo.1] at hR4
    repeat ((conv => whnf); first | with_reducible refine O_step ?_ | with_reducible refine S_step ?_ | with_reducible refine D_step ?_ | with_reducible refine RO.exit ?_ | with_reducible refine RO.ret ?_ | ((with_reducible refine And.intro ?sc ?_); case sc => exact side) | ((with_reducible refine br_f ?sc ?_); case sc => exact sideB) | ((with_reducible refine br_t ?sc ?_); case sc => exact sideB))
    rw [hz]
    repeat ((conv => whnf); first | with_reducible refine O_step ?_ | with_reducible refine S_step ?_ | with_reducible refine D_step ?_ | with_reducible refine RO.exit ?_ | with_reducible refine RO.ret ?_ | ((with_reducible refine And.intro ?sc ?_); case sc => exact side) | ((with_reducible refine br_f ?sc ?_); case sc => exact sideB) | ((with_reducible refine br_t ?sc ?_); case sc => exact sideB))
    refine number_d [.one true 0 (.ints .u8 ls 19)] (n := 3) hR4 ok4 (by omega) (fun v s5 hv ho5 ha5 ok5 hR5 => ?_) (fun h => Exists.intro (zH lim gb cb xs g c s4) (And.intro (And.intro rfl (And.intro rfl (And.intro rfl (And.intro rfl (trivial))))) (And.intro zH_nb (And.intro rfl (h1 50 g c s4 (by rw [h] at hR; exact hR.symm))))))
    have hv2 : (v : Int) % 256 = v := by omega
    have hlb5 : ∀ x ∈ ls.set z (v : Int), 0 ≤ x ∧ x < 256 := fun x hx => by
      rcases List.mem_or_eq_of_mem_set hx with hx | rfl
      · exact hlb x hx
      · omega
    repeat ((conv => whnf); first | with_reducible refine O_step ?_ | with_reducible refine S_step ?_ | with_reducible refine D_step ?_ | with_reducible refine RO.exit ?_ | with_reducible refine RO.ret ?_ | ((with_reducible refine And.intro ?sc ?_); case sc => exact side) | ((with_reducible refine br_f ?sc ?_); case sc => exact sideB) | ((with_reducible refine br_t ?sc ?_); case sc => exact sideB))
    refine RO.same (i + 1, s5, ls.set z (v : Int)) ⟨by rw [ho5, ho4], ok5, by omega, by rw [List.length_set]; exact hls, hlb5, hR5⟩ (show cc + 4 - (i + 1) < cc + 4 - i by omega) (And.intro rfl (And.intro rfl (And.intro rfl (And.intro rfl (And.intro rfl (And.intro rfl (trivial))))))) (And.intro rfl (And.intro rfl (And.intro rfl (And.intro rfl (And.intro ?_ trivial)))))
    show AO.one true 0 (.ints .u8 (ls.set z (v : Int)) 19) = AO.one true 0 (.ints .u8 (ls.set z ((v : Int) % 256)) 19)
    rw [hv2]
  · obtain rfl : i = cc + 4 := by simp only [decide_eq_false_iff_not] at hc; omega
    rw [Nat.sub_self, pOrd, DP.run] at hR4
    rw [← hR4] at hR
    simp only at hR
    rw [DP.run_bind] at hR
    repeat ((conv => whnf); first | with_reducible refine O_step ?_ | with_reducible refine S_step ?_ | with_reducible refine D_step ?_ | with_reducible refine RO.exit ?_ | with_reducible refine RO.ret ?_ | ((with_reducible refine And.intro ?sc ?_); case sc => exact side) | ((with_reducible refine br_f ?sc ?_); case sc => exact sideB) | ((with_reducible refine br_t ?sc ?_); case sc => exact sideB))
    refine table_at (i := 4) (ls := ls) rfl hls.symm (by omega) hlb (fun he => ?_) (fun he => ?_)
    · rw [pTab, if_pos he, DP.run] at hR
      simp only at hR
      rw [DP.run_bind] at hR
      obtain ⟨R3, hR3⟩ : ∃ R3, (pLens (layM (allT ls) []) (a + 257 + (b + 1)) 401 []).run (unpack xs) lim s4 = R3 := ⟨_, rfl⟩
      rw [hR3] at hR
      have en : (a : Int) + 257 + ((b : Int) + 1) = ((a + 257 + (b + 1) : Nat) : Int) := by push_cast; rfl
      repeat ((conv => whnf); first | with_reducible refine O_step ?_ | with_reducible refine S_step ?_ | with_reducible refine D_step ?_ | with_reducible refine RO.exit ?_ | with_reducible refine RO.ret ?_ | ((with_reducible refine And.intro ?sc ?_); case sc => exact side) | ((with_reducible refine br_f ?sc ?_); case sc => exact sideB) | ((with_reducible refine br_t ?sc ?_); case sc => exact sideB))
      rw [en]
      refine zlengths_at [.one true 0 (.ints .u8 ls 19), mapO (layM (allT ls) []), tabO 5] 1 rfl rfl rfl ok4 (keyOk_all _) (symLt_all (by omega)) (by omega) (by omega) hR3 (fun gl cl l s6 e6 ho6 ok6 hl6 hb6 hcl => ?_) (fun e s' h => ?_)
      · rw [e6] at hR
        simp only at hR
        repeat ((conv => whnf); first | with_reducible refine O_step ?_ | with_reducible refine S_step ?_ | with_reducible refine D_step ?_ | with_reducible refine RO.exit ?_ | with_reducible refine RO.ret ?_ | ((with_reducible refine And.intro ?sc ?_); case sc => exact side) | ((with_reducible refine br_f ?sc ?_); case sc => exact sideB) | ((with_reducible refine br_t ?sc ?_); case sc => exact sideB))
        refine And.intro (fun hc => ?_) (fun hc => ?_)
        · have hz : l.getD 256 0 = 0 := by simpa using hc
          rw [if_pos hz] at hR
          repeat ((conv => whnf); first | with_reducible refine O_step ?_ | with_reducible refine S_step ?_ | with_reducible refine D_step ?_ | with_reducible refine RO.exit ?_ | with_reducible refine RO.ret ?_ | ((with_reducible refine And.intro ?sc ?_); case sc => exact side) | ((with_reducible refine br_f ?sc ?_); case sc => exact sideB) | ((with_reducible refine br_t ?sc ?_); case sc => exact sideB))
          refine must_at (fun h => absurd h (by decide)) (fun _ => ?_)
          exact Exists.intro (zH lim gb cb xs g c s6) (And.intro (And.intro rfl (And.intro rfl (And.intro rfl (And.intro rfl (trivial))))) (And.intro zH_nb (And.intro rfl (h1 80 _ _ _ hR.symm))))
        have hz : ¬ l.getD 256 0 = 0 := by simpa using hc
        rw [if_neg hz, DP.run_bind] at hR
        have hb7 : ∀ x ∈ s6.out, 0 ≤ x ∧ x < 256 := by rw [ho6, ho4]; exact hb
        have hlA : (l.take (a + 257)).length = a + 257 := by rw [List.length_take]; omega
        have hlB : (l.drop (a + 257)).length = b + 1 := by rw [List.length_drop]; omega
        have hAu : ∀ x ∈ l.take (a + 257), 0 ≤ x ∧ x < 256 := fun x hx => hb6 x (List.mem_of_mem_take hx)
        have hBu : ∀ x ∈ l.drop (a + 257), 0 ≤ x ∧ x < 256 := fun x hx => hb6 x (List.mem_of_mem_drop hx)
        have e7 : ((a : Int) + 257).toNat = a + 257 := by omega
        have e8 : offS cl (a + 257) 0 1 = a + 257 := by rw [offS_1 (by omega)]; omega
        have hll := ok.ll
        repeat ((conv => whnf); first | with_reducible refine O_step ?_ | with_reducible refine S_step ?_ | with_reducible refine D_step ?_ | with_reducible refine RO.exit ?_ | with_reducible refine RO.ret ?_ | ((with_reducible refine And.intro ?sc ?_); case sc => exact side) | ((with_reducible refine br_f ?sc ?_); case sc => exact sideB) | ((with_reducible refine br_t ?sc ?_); case sc => exact sideB))
        rw [e7]
        simp only [e8]
        refine table_win (i := 7) (off := 0) (ys := l) (co := cl) (ls := l.take (a + 257)) rfl hlA.symm (by rw [hlA, List.drop_zero]) (by omega) (by omega) hAu (fun hAe => ?_) (fun hAe => ?_)
        · rw [pTab, if_pos hAe, DP.run] at hR
          simp only at hR
          rw [DP.run_bind] at hR
          repeat ((conv => whnf); first | with_reducible refine O_step ?_ | with_reducible refine S_step ?_ | with_reducible refine D_step ?_ | with_reducible refine RO.exit ?_ | with_reducible refine RO.ret ?_ | ((with_reducible refine And.intro ?sc ?_); case sc => exact side) | ((with_reducible refine br_f ?sc ?_); case sc => exact sideB) | ((with_reducible refine br_t ?sc ?_); case sc => exact sideB))
          refine table_win (i := 7) (off := a + 257) (ys := l) (co := cl) (ls := l.drop (a + 257)) rfl (List.length_drop ..).symm List.take_length.symm (by omega) (by omega) hBu (fun hBe => ?_) (fun hBe => ?_)
          · rw [pTab, if_pos hBe, DP.run] at hR
            simp only at hR
            repeat ((conv => whnf); first | with_reducible refine O_step ?_ | with_reducible refine S_step ?_ | with_reducible refine D_step ?_ | with_reducible refine RO.exit ?_ | with_reducible refine RO.ret ?_ | ((with_reducible refine And.intro ?sc ?_); case sc => exact side) | ((with_reducible refine br_f ?sc ?_); case sc => exact sideB) | ((with_reducible refine br_t ?sc ?_); case sc => exact sideB))
            refine syms_at [.one true 0 (.ints .u8 ls 19), mapO (layM (allT ls) []), tabO 5, .one true gl (.ints .u8 l cl), mapO (layM (allT (l.take (a + 257))) []), tabO 8, mapO (layM (allT (l.drop (a + 257))) []), tabO 10] 4 6 rfl rfl rfl rfl rfl ok6 hb7 (keyOk_all _) (keyOk_all _) (symLt_all (N := 2000) (by omega)) (symLt_all (N := 2000) (by omega)) (by unfold FU; omega) hR (fun g' c' s' h k l => ?_) (fun e g' c' s' h => ?_)
            · repeat ((conv => whnf); first | with_reducible refine O_step ?_ | with_reducible refine S_step ?_ | with_reducible refine D_step ?_ | with_reducible refine RO.exit ?_ | with_reducible refine RO.ret ?_ | ((with_reducible refine And.intro ?sc ?_); case sc => exact side) | ((with_reducible refine br_f ?sc ?_); case sc => exact sideB) | ((with_reducible refine br_t ?sc ?_); case sc => exact sideB))
              exact Exists.intro (zH lim gb cb xs g' c' s') (And.intro (And.intro rfl (And.intro rfl (And.intro rfl (And.intro rfl (trivial))))) (And.intro zH_nb (And.intro rfl (h0 g' c' s' h k l))))
            · exact Exists.intro (zH lim gb cb xs g' c' s') (And.intro (And.intro rfl (And.intro rfl (And.intro rfl (And.intro rfl (trivial))))) (And.intro zH_nb (And.intro rfl (h1 e g' c' s' h))))
          · rw [pTab, if_neg hBe, DP.run] at hR
            exact Exists.intro (zH lim gb cb xs g c s6) (And.intro (And.intro rfl (And.intro rfl (And.intro rfl (And.intro rfl (trivial))))) (And.intro zH_nb (And.intro rfl (h1 _ _ _ _ hR.symm))))
        · rw [pTab, if_neg hAe, DP.run] at hR
          exact Exists.intro (zH lim gb cb xs g c s6) (And.intro (And.intro rfl (And.intro rfl (And.intro rfl (And.intro rfl (trivial))))) (And.intro zH_nb (And.intro rfl (h1 _ _ _ _ hR.symm))))
      · rw [h] at hR
        exact Exists.intro (zH lim gb cb xs g c s') (And.intro (And.intro rfl (And.intro rfl (And.intro rfl (And.intro rfl (trivial))))) (And.intro zH_nb (And.intro rfl (h1 e _ _ _ hR.symm))))
    · rw [pTab, if_neg he, DP.run] at hR
      exact Exists.intro (zH lim gb cb xs g c s4) (And.intro (And.intro rfl (And.intro rfl (And.intro rfl (And.intro rfl (trivial))))) (And.intro zH_nb (And.intro rfl (h1 _ _ _ _ hR.symm))))
end

end Go.Proofs.Yteinenklppbjkaa
