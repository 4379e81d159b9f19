/- Layer 8: table, symbol, far. -/
import Derived.Test.YteinenklppbjkaaZ1

import Derived.Test.YteinenklppbjkaaLH3

import Derived.Test.YteinenklppbjkaaGx

set_option linter.unusedVariables false

set_option linter.unusedSimpArgs false

open Go.RowKit

namespace Go.Proofs.Yteinenklppbjkaa

set_option maxRecDepth 10000

/-- Objects at the end are dropped, also where a code panics. -/
theorem CallA.post_sub2 {P : Program} {g : Nat} {args : List AV} {M : AH} {K Kp : AV → AH → Prop} (h : CallA P g args M (fun r M' => ∃ N, subA M' N ∧ nbH N.length N ∧ (r.nb N.length && Nat.ble M.length N.length) = true ∧ K r N) (fun r M' => ∃ N, subA M' N ∧ nbH N.length N ∧ (r.nb N.length && Nat.ble M.length N.length) = true ∧ Kp r N)) : CallA P g args M K Kp := by
  refine CallA.post_sub ?_
  unfold CallA at *
  refine ⟨h.1, fun ρ w hs hok => Calls.mono (h.2 ρ w hs hok) fun e w' he => ?_⟩
  obtain ⟨ρ', M', h1, h2, h3⟩ := he
  cases e with
  | returned v => exact ⟨ρ', M', h1, h2, h3⟩
  | panicked ch =>
    obtain ⟨r, e1, e2, N, e3, e4, e5, e6⟩ := h3
    simp only [Bool.and_eq_true] at e5
    obtain ⟨k1, k2⟩ := sim_sub hs.dom h1 h2 e3 e4 (by simpa using e5.2)
    exact ⟨_, N, k1, k2, r, by rw [AV.nb_c e5.1 e2]; exact e1, AV.nb_ok r e5.1 e2, e6⟩
  | outgrown => exact h3.elim

/-- A table's Read, as a tree. -/
def pSym (es : List ((Int × Int) × Int)) : Nat → Nat → Nat → DP Int
  | 0, _, _ => .fail 60
  | f + 1, c, n => match findZ ((c : Int), (n : Int)) es with
    | none => .fail 60
    | some z => if 0 ≤ z then .ret z else .get 1 fun b => pSym es f (2 * c + b.toNat) (n + 1)
def tSym (es : List ((Int × Int) × Int)) : DP Int := pSym es 17 0 0
theorem num_bit {row : List Bool} {a : Nat} (h : a < row.length) : num ((row.drop a).take 1) = if row.getD a false = true then 1 else 0 := by
  rw [List.take_one, List.head?_drop, List.getElem?_eq_getElem h, List.getD_eq_getElem?_getD, List.getElem?_eq_getElem h]
  cases row[a] <;> rfl
theorem pSym_run {es : List ((Int × Int) × Int)} {row : List Bool} {lim : Nat} (hes : keyOk es) : ∀ (f c n : Nat) (s : DS), 16 < f + n → (pSym es f c n).run row lim s = match readG es row (row.length - s.a + 1) c n s.a with | (v, a', e) => if e = 0 then .ok (v, { s with a := a' }) else .error e
  | 0, c, n, s, h => by
    have : findZ ((c : Int), (n : Int)) es = none := by
      cases hz : findZ ((c : Int), (n : Int)) es with
      | none => rfl
      | some z => have := hes _ _ hz; simp only at this; omega
    simp only [pSym, readG, this, DP.run]
    rfl
  | f + 1, c, n, s, h => by
    obtain ⟨o, ho⟩ : ∃ o, findZ ((c : Int), (n : Int)) es = o := ⟨_, rfl⟩
    simp only [pSym, readG, ho]
    cases o with
    | none => simp only [DP.run]; rfl
    | some z =>
      simp only
      split
      · simp [DP.run]
      · simp only [DP.run]
        by_cases hl : row.length ≤ s.a
        · rw [if_neg (by omega), if_pos hl]
          rfl
        · rw [if_pos (by omega), if_neg hl, pSym_run hes f _ (n + 1) _ (by omega), num_bit (by omega)]
          simp only
          rw [show (if row.getD s.a false = true then (1 : Int) else 0).toNat = if row.getD s.a false = true then 1 else 0 by split <;> rfl,
            show row.length - (s.a + 1) + 1 = row.length - s.a by omega]
theorem tSym_run {es : List ((Int × Int) × Int)} {row : List Bool} {lim : Nat} (hes : keyOk es) (s : DS) : (tSym es).run row lim s = match treadF es row s.a with | (v, a', e) => if e = 0 then .ok (v, { s with a := a' }) else .error e := pSym_run hes 17 0 0 s (by omega)
theorem readG_le (es : List ((Int × Int) × Int)) (row : List Bool) : ∀ (f c n a : Nat), a ≤ row.length → (readG es row f c n a).2.1 ≤ row.length
  | 0, _, _, a, h => h
  | f + 1, c, n, a, h => by
    simp only [readG]
    split
    · exact h
    · split
      · exact h
      · split
        · exact h
        · exact readG_le es row f _ _ _ (by omega)
theorem treadF_le {es : List ((Int × Int) × Int)} {row : List Bool} {a : Nat} (h : a ≤ row.length) : (treadF es row a).2.1 ≤ row.length := readG_le es row _ _ _ a h
/-- A length or a distance. -/
def pFar (s each : Nat) : DP Int := if s < 2 * each then .ret s else .get (s / each - 1) fun v => .ret (((each + s % each) * 2 ^ (s / each - 1) : Nat) + v)
/-- A table. -/
def pTab (ls : List Int) : DP (List ((Int × Int) × Int)) := if eachE ls = 0 then .ret (layM (allT ls) []) else .fail (eachE ls)
def mapO (es : List ((Int × Int) × Int)) : AO := .one true 0 (.map (.pair .i64 .i64) (mzM es))
def tabO (i : Nat) : AO := .one true 0 (.cells [.mp i 0])
section

variable {K Kp : AV → AH → Prop}

theorem table_call {ls : List Int} {c c0 : Nat} (hl : ls.length ≤ 2000) (hu : ∀ x ∈ ls, 0 ≤ x ∧ x < 256)
    (h0 : eachE ls = 0 → K (.ptr 2 0 0) [.one false 0 (.ints .u8 ls c), mapO (layM (allT ls) []), tabO 1])
    (h1 : eachE ls ≠ 0 → Kp (faultV (eachE ls)) [.one false 0 (.ints .u8 ls c)]) :
    CallA Try.prog 35 [.sl 0 0 0 ls.length c0] [.one false 0 (.ints .u8 ls c)] K Kp := by
  refine step35 (fun _ => []) [] rfl ?_
  repeat ((conv => whnf); first | with_reducible refine O_step ?_ | with_reducible refine S_step ?_ | with_reducible refine D_step ?_ | with_reducible refine RO.exit ?_ | with_reducible refine RO.ret ?_ | ((with_reducible refine And.intro ?sc ?_); case sc => exact side) | ((with_reducible refine br_f ?sc ?_); case sc => exact sideB) | ((with_reducible refine br_t ?sc ?_); case sc => exact sideB))
  refine hnew_at (i := 0) (ls := ls) rfl rfl hl hu (fun he => ?_) (fun he => ?_)
  · repeat ((conv => whnf); first | with_reducible refine O_step ?_ | with_reducible refine S_step ?_ | with_reducible refine D_step ?_ | with_reducible refine RO.exit ?_ | with_reducible refine RO.ret ?_ | ((with_reducible refine And.intro ?sc ?_); case sc => exact side) | ((with_reducible refine br_f ?sc ?_); case sc => exact sideB) | ((with_reducible refine br_t ?sc ?_); case sc => exact sideB))
    refine must_at (fun h => absurd h he) (fun _ => ?_)
    exact h1 he
  · have hK := h0 he
    unfold allT mapO at hK
    rw [if_pos he] at hK
    repeat ((conv => whnf); first | with_reducible refine O_step ?_ | with_reducible refine S_step ?_ | with_reducible refine D_step ?_ | with_reducible refine RO.exit ?_ | with_reducible refine RO.ret ?_ | ((with_reducible refine And.intro ?sc ?_); case sc => exact side) | ((with_reducible refine br_f ?sc ?_); case sc => exact sideB) | ((with_reducible refine br_t ?sc ?_); case sc => exact sideB))
    refine must_at (fun h => ?_) (fun h => absurd rfl h)
    repeat ((conv => whnf); first | with_reducible refine O_step ?_ | with_reducible refine S_step ?_ | with_reducible refine D_step ?_ | with_reducible refine RO.exit ?_ | with_reducible refine RO.ret ?_ | ((with_reducible refine And.intro ?sc ?_); case sc => exact side) | ((with_reducible refine br_f ?sc ?_); case sc => exact sideB) | ((with_reducible refine br_t ?sc ?_); case sc => exact sideB))
    exact hK
theorem table_at {M : AH} {i g n c0 co : Nat} {o : Bool} {ls : List Int} (hi : M[i]? = some (.one o g (.ints .u8 ls co))) (hn : n = ls.length) (hl : ls.length ≤ 2000) (hu : ∀ x ∈ ls, 0 ≤ x ∧ x < 256)
    (h0 : eachE ls = 0 → K (.ptr (M.length + 1) 0 0) (M ++ [mapO (layM (allT ls) []), tabO M.length]))
    (h1 : eachE ls ≠ 0 → Kp (faultV (eachE ls)) M) : CallA Try.prog 35 [.sl i g 0 n c0] M K Kp := by
  subst hn
  refine CallA.lift [.win i g 0] (table_call (ls := ls) (c0 := c0) (c := co) (K := fun r M => eachE ls = 0 ∧ r = .ptr 2 0 0 ∧ M = [.one false 0 (.ints .u8 ls co), mapO (layM (allT ls) []), tabO 1]) (Kp := fun v M => eachE ls ≠ 0 ∧ v = faultV (eachE ls) ∧ M = [.one false 0 (.ints .u8 ls co)]) hl hu (fun h => ⟨h, rfl, rfl⟩) (fun h => ⟨h, rfl, rfl⟩)) rfl rfl ⟨⟨_, _, _, rfl, slot_one hi, WinC.same rfl (fun h => h)⟩, trivial⟩ ⟨trivial, trivial⟩ ?_ ?_
  · rintro r M' ⟨e, rfl, rfl⟩
    refine ⟨⟨rfl, rfl⟩, ?_⟩
    have := h0 e
    unfold mapO at this
    rw [← mz_rn [.win i g 0] M.length (.pair .i64 .i64) (layM (allT ls) [])] at this
    exact this
  · rintro r M' ⟨e, rfl, rfl⟩
    refine ⟨⟨rfl, rfl⟩, ?_⟩
    have := h1 e
    rw [← List.append_nil M] at this
    exact this
variable {xs : List Int} {lim gb cb g c : Nat} {s : DS}

theorem symbol_call {es : List ((Int × Int) × Int)} (ok : ZOk xs lim c s) (hes : keyOk es) (h0 : ∀ v s', (tSym es).run (unpack xs) lim s = .ok (v, s') → ZOk xs lim c s' → K (.int .i64 v) (zH lim gb cb xs g c s' ++ [mapO es, tabO 4]))
    (h1 : ∀ e s', (tSym es).run (unpack xs) lim s = .error e → Kp (faultV e) (zH lim gb cb xs g c s' ++ [mapO es, tabO 4])) :
    CallA Try.prog 50 [.ptr 0 0 0, .ptr 5 0 0] (zH lim gb cb xs g c s ++ [mapO es, tabO 4]) K Kp := by
  have hul := unpack_length xs
  have h1' := ok.xl
  have h2' := ok.al
  have hrun := tSym_run (row := unpack xs) (lim := lim) hes s
  refine step50 (fun _ => []) [] rfl ?_
  repeat ((conv => whnf); first | with_reducible refine O_step ?_ | with_reducible refine S_step ?_ | with_reducible refine D_step ?_ | with_reducible refine RO.exit ?_ | with_reducible refine RO.ret ?_ | ((with_reducible refine And.intro ?sc ?_); case sc => exact side) | ((with_reducible refine br_f ?sc ?_); case sc => exact sideB) | ((with_reducible refine br_t ?sc ?_); case sc => exact sideB))
  refine tread_at (ir := 1) (ib := 2) (im := 4) (it := 5) (xs := xs) (a := s.a) (es := es) rfl rfl rfl rfl rfl (by omega) ok.al ok.xb hes ?_
  have hle := treadF_le (es := es) (row := unpack xs) (a := s.a) (by omega)
  generalize treadF es (unpack xs) s.a = tr at hrun hle
  obtain ⟨v, a', e⟩ := tr
  simp only at hrun hle
  repeat ((conv => whnf); first | with_reducible refine O_step ?_ | with_reducible refine S_step ?_ | with_reducible refine D_step ?_ | with_reducible refine RO.exit ?_ | with_reducible refine RO.ret ?_ | ((with_reducible refine And.intro ?sc ?_); case sc => exact side) | ((with_reducible refine br_f ?sc ?_); case sc => exact sideB) | ((with_reducible refine br_t ?sc ?_); case sc => exact sideB))
  refine must_at (fun h => ?_) (fun h => ?_)
  · rw [if_pos h] at hrun
    have hK := h0 v { s with a := a' } hrun ⟨ok.xl, ok.xb, by show a' ≤ _; omega, ok.ll, ok.ol, ok.oc⟩
    repeat ((conv => whnf); first | with_reducible refine O_step ?_ | with_reducible refine S_step ?_ | with_reducible refine D_step ?_ | with_reducible refine RO.exit ?_ | with_reducible refine RO.ret ?_ | ((with_reducible refine And.intro ?sc ?_); case sc => exact side) | ((with_reducible refine br_f ?sc ?_); case sc => exact sideB) | ((with_reducible refine br_t ?sc ?_); case sc => exact sideB))
    exact hK
  · rw [if_neg h] at hrun
    exact h1 e { s with a := a' } hrun
theorem far_call {v each : Nat} (ok : ZOk xs lim c s) (he : each = 2 ∨ each = 4) (hv : v < 30) (h0 : ∀ z s', (pFar v each).run (unpack xs) lim s = .ok (z, s') → ZOk xs lim c s' → 0 ≤ z ∧ z < 100000 → K (.int .i64 z) (zH lim gb cb xs g c s'))
    (h1 : ∀ e s', (pFar v each).run (unpack xs) lim s = .error e → Kp (faultV e) (zH lim gb cb xs g c s')) :
    CallA Try.prog 51 [.ptr 0 0 0, .int .i64 (v : Int), .int .i64 (each : Int)] (zH lim gb cb xs g c s) K Kp := by
  have hul := unpack_length xs
  have h1' := ok.xl
  have h2' := ok.al
  have he1 : ¬ (each : Int) = 0 := by omega
  refine step51 (fun _ => []) [] rfl ?_
  repeat ((conv => whnf); first | with_reducible refine O_step ?_ | with_reducible refine S_step ?_ | with_reducible refine D_step ?_ | with_reducible refine RO.exit ?_ | with_reducible refine RO.ret ?_ | ((with_reducible refine And.intro ?sc ?_); case sc => exact side) | ((with_reducible refine br_f ?sc ?_); case sc => exact sideB) | ((with_reducible refine br_t ?sc ?_); case sc => exact sideB))
  refine And.intro (fun h => ?_) (fun h => ?_)
  · have hl : v < 2 * each := by simp only [decide_eq_true_eq] at h; omega
    have hK := h0 v s (by unfold pFar; rw [if_pos hl]; rfl) ok (by omega)
    repeat ((conv => whnf); first | with_reducible refine O_step ?_ | with_reducible refine S_step ?_ | with_reducible refine D_step ?_ | with_reducible refine RO.exit ?_ | with_reducible refine RO.ret ?_ | ((with_reducible refine And.intro ?sc ?_); case sc => exact side) | ((with_reducible refine br_f ?sc ?_); case sc => exact sideB) | ((with_reducible refine br_t ?sc ?_); case sc => exact sideB))
    exact hK
  · have hl : ¬ v < 2 * each := by simp only [decide_eq_false_iff_not] at h; omega
    have hq : 2 ≤ v / each ∧ v / each ≤ 14 := by
      rcases he with rfl | rfl <;> omega
    have hm : v % each < 4 := by
      rcases he with rfl | rfl <;> omega
    have e1 : ((v : Int)).tdiv (each : Int) = ((v / each : Nat) : Int) := (Int.ofNat_tdiv v each).symm
    have e2 : ((v : Int)).tmod (each : Int) = ((v % each : Nat) : Int) := (Int.ofNat_tmod v each).symm
    have hF : pFar v each = .get (v / each - 1) fun z => .ret (((each + v % each) * 2 ^ (v / each - 1) : Nat) + z) := by unfold pFar; rw [if_neg hl]
    rw [hF] at h0 h1
    obtain ⟨n, hn⟩ : ∃ n, v / each = n + 1 := ⟨v / each - 1, by omega⟩
    obtain ⟨r, hr⟩ : ∃ r, v % each = r := ⟨_, rfl⟩
    have hp : 2 ^ n ≤ 2 ^ 13 := Nat.pow_le_pow_right (by omega) (by omega)
    have hsz : (each + r) * 2 ^ n ≤ 8 * 2 ^ 13 := Nat.mul_le_mul (by omega) hp
    rw [hn, hr] at h0 h1
    rw [hn] at e1
    rw [hr] at e2
    simp only [Nat.add_sub_cancel, DP.run] at h0 h1
    repeat ((conv => whnf); first | with_reducible refine O_step ?_ | with_reducible refine S_step ?_ | with_reducible refine D_step ?_ | with_reducible refine RO.exit ?_ | with_reducible refine RO.ret ?_ | ((with_reducible refine And.intro ?sc ?_); case sc => exact side) | ((with_reducible refine br_f ?sc ?_); case sc => exact sideB) | ((with_reducible refine br_t ?sc ?_); case sc => exact sideB))
    rw [e1]
    repeat ((conv => whnf); first | with_reducible refine O_step ?_ | with_reducible refine S_step ?_ | with_reducible refine D_step ?_ | with_reducible refine RO.exit ?_ | with_reducible refine RO.ret ?_ | ((with_reducible refine And.intro ?sc ?_); case sc => exact side) | ((with_reducible refine br_f ?sc ?_); case sc => exact sideB) | ((with_reducible refine br_t ?sc ?_); case sc => exact sideB))
    rw [e2]
    have e3 : ((n + 1 : Nat) : Int) - 1 = (n : Int) := by omega
    have e4 : (each : Int) + (r : Int) = ((each + r : Nat) : Int) := by push_cast; rfl
    rw [e3, e4, shl64 (x := each + r) (k := n) (by omega) (by omega)]
    have hb0 := num_nonneg (((unpack xs).drop s.a).take n)
    have hb2 : num (((unpack xs).drop s.a).take n) < 8192 := by
      have h1 : (2 : Int) ^ (((unpack xs).drop s.a).take n).length ≤ 2 ^ 13 := by exact_mod_cast Nat.pow_le_pow_right (by omega) (show (((unpack xs).drop s.a).take n).length ≤ 13 by rw [List.length_take]; omega)
      have h2 : (2 : Int) ^ 13 = 8192 := by decide
      have := num_lt (((unpack xs).drop s.a).take n)
      omega
    refine number_call (n := n) ok (by omega) (fun h => ?_) (fun h => ?_)
    · simp only [h, if_true] at h0
      have hK := h0 _ _ rfl ⟨ok.xl, ok.xb, by show s.a + n ≤ _; omega, ok.ll, ok.ol, ok.oc⟩ (by omega)
      repeat ((conv => whnf); first | with_reducible refine O_step ?_ | with_reducible refine S_step ?_ | with_reducible refine D_step ?_ | with_reducible refine RO.exit ?_ | with_reducible refine RO.ret ?_ | ((with_reducible refine And.intro ?sc ?_); case sc => exact side) | ((with_reducible refine br_f ?sc ?_); case sc => exact sideB) | ((with_reducible refine br_t ?sc ?_); case sc => exact sideB))
      exact hK
    · simp only [h, if_false] at h1
      exact h1 50 s rfl
end

end Go.Proofs.Yteinenklppbjkaa
