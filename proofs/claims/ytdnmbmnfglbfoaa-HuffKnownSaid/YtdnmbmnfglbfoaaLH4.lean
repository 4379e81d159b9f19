/- Layer 6: HuffOrder. -/
import Derived.Test.YtdnmbmnfglbfoaaH23

import Derived.Test.YtdnmbmnfglbfoaaLH0

set_option linter.unusedVariables false

set_option linter.unusedSimpArgs false

open Go.RowKit

namespace Go.Proofs.Ytdnmbmnfglbfoaa

set_option maxRecDepth 10000

theorem lengthsF_cases (fr : List Int) (limit : Int) : ((lengthsF fr limit).1 = [] ∧ (lengthsF fr limit).2 ≠ 0) ∨
    ((lengthsF fr limit).2 = 0 ∧ 1 ≤ limit ∧ limit ≤ 15 ∧ fr.length ≤ 320 ∧ fr.any badI = false ∧ nF fr ≤ 2 ^ limit.toNat ∧ (lengthsF fr limit).1 = hlenF fr limit.toNat ∧ LensOk fr limit.toNat (lengthsF fr limit).1) := by
  unfold lengthsF
  by_cases h1 : lenB fr limit = true
  · rw [if_pos h1]; exact .inl ⟨rfl, by decide⟩
  · rw [if_neg h1]
    by_cases h2 : 2 ^ limit.toNat < (usedF fr).length
    · rw [if_pos h2]; exact .inl ⟨rfl, by decide⟩
    · rw [if_neg h2]
      unfold lenB at h1
      simp only [Bool.or_eq_true, decide_eq_true_eq, not_or, Bool.not_eq_true] at h1
      obtain ⟨⟨⟨a, b⟩, c⟩, d⟩ := h1
      exact .inr ⟨rfl, by omega, by omega, by omega, d, Nat.le_of_not_lt h2, rfl, lens_ok d (by omega) (by omega) (by omega) (Nat.le_of_not_lt h2)⟩
theorem LensOk.rng {fr : List Int} {K : Nat} {l : List Int} (h : LensOk fr K l) {s : Nat} (hs : s < fr.length) : 0 ≤ l.getD s 0 ∧ l.getD s 0 ≤ K := by
  by_cases e : 0 < fr.getD s 0
  · have := h.pos s hs e; omega
  · rw [h.zero s hs e]; omega
theorem huffOrder_law (fr : List Int) (c : Nat) (hc : fr.length ≤ c ∧ c ≤ 9223372036854775807) (hx : ∀ x ∈ fr, IntKind.i64.min ≤ x ∧ x ≤ IntKind.i64.max) (limit : Int) (hlim : IntKind.i64.min ≤ limit ∧ limit ≤ IntKind.i64.max) :
    CallA Try.prog 5 [.sl 0 0 0 fr.length c, .int .i64 limit] [.one false 0 (.ints .i64 fr c)] (fun r _ => r = .bo true) (fun _ _ => False) := by
  refine CallA.post_asB ?_
  refine step5 (fun _ => [0, 1, 2, 3]) [] rfl ?_
  repeat ((conv => whnf); first | with_reducible refine O_step ?_ | with_reducible refine S_step ?_ | with_reducible refine D_step ?_ | with_reducible refine RO.exit ?_ | with_reducible refine RO.ret ?_ | ((with_reducible refine And.intro ?sc ?_); case sc => exact side) | ((with_reducible refine br_f ?sc ?_); case sc => exact sideB) | ((with_reducible refine br_t ?sc ?_); case sc => exact sideB))
  refine And.intro (fun h1 => ?_) (fun h1 => ?_)
  · repeat ((conv => whnf); first | with_reducible refine O_step ?_ | with_reducible refine S_step ?_ | with_reducible refine D_step ?_ | with_reducible refine RO.exit ?_ | with_reducible refine RO.ret ?_ | ((with_reducible refine And.intro ?sc ?_); case sc => exact side) | ((with_reducible refine br_f ?sc ?_); case sc => exact sideB) | ((with_reducible refine br_t ?sc ?_); case sc => exact sideB))
    exact ⟨true, rfl, rfl⟩
  have h1' : ¬ (60 : Int) < fr.length := by simpa using h1
  repeat ((conv => whnf); first | with_reducible refine O_step ?_ | with_reducible refine S_step ?_ | with_reducible refine D_step ?_ | with_reducible refine RO.exit ?_ | with_reducible refine RO.ret ?_ | ((with_reducible refine And.intro ?sc ?_); case sc => exact side) | ((with_reducible refine br_f ?sc ?_); case sc => exact sideB) | ((with_reducible refine br_t ?sc ?_); case sc => exact sideB))
  refine WO.gov (σ := Nat × Nat × Nat) (fun s => s.1 ≤ fr.length ∧ (dblF (fr.take s.1)).length ≤ s.2.2 ∧ ∀ x ∈ fr.take s.1, 0 ≤ x ∧ x ≤ 549755813888) (fun s => fr.length - s.1)
    (fun s => [(0, .sl 0 0 0 fr.length c), (1, .int .i64 limit), (5, .sl 1 s.2.1 0 (dblF (fr.take s.1)).length s.2.2), (6, .int .i64 (s.1 : Int))])
    (fun s => [.one false 0 (.ints .i64 fr c), .one true s.2.1 (.ints .i64 (dblF (fr.take s.1)) s.2.2)]) (0, 0, 0) tb_ok mixed (by kernel_rfl)
    [(0, .sl 0 0 0 fr.length c), (1, .int .i64 limit), (5, .ns), (6, .int .i64 0)] _ ⟨Nat.zero_le _, Nat.zero_le _, by intro x hx; simp at hx⟩ (And.intro rfl (And.intro rfl (And.intro rfl (And.intro rfl (trivial))))) rfl
    (Vw.nils (x := .ints .i64 [] 0) ⟨rfl, rfl⟩ ?_) (And.intro rfl (And.intro rfl (trivial))) (fun _ => rfl) (fun _ => rfl) (fun _ => ⟨trivial, trivial, trivial⟩) ?_
  · exact And.intro (.inl rfl) (And.intro (.inl rfl) (And.intro (.inr ⟨rfl, rfl⟩) (And.intro (.inl rfl) trivial)))
  rintro ⟨i, g, c1⟩ ⟨i1, i2, i3⟩ d0
  simp only at i1 i2 i3
  repeat ((conv => whnf); first | with_reducible refine O_step ?_ | with_reducible refine S_step ?_ | with_reducible refine D_step ?_ | with_reducible refine RO.exit ?_ | with_reducible refine RO.ret ?_ | ((with_reducible refine And.intro ?sc ?_); case sc => exact side) | ((with_reducible refine br_f ?sc ?_); case sc => exact sideB) | ((with_reducible refine br_t ?sc ?_); case sc => exact sideB))
  refine And.intro (fun hi => ?_) (fun hi => ?_)
  · have hil : i < fr.length := by simp only [decide_eq_true_eq] at hi; omega
    have hgd : fr.getD ((i : Int).toNat + 0) 0 = fr[i] := by simp [List.getD_eq_getElem?_getD, hil]
    have htk : fr.take (i + 1) = fr.take i ++ [fr[i]] := List.take_succ_eq_append_getElem hil
    have hdl : dblF (fr.take (i + 1)) = dblF (fr.take i) ++ [2 * fr[i]] := by rw [htk]; unfold dblF; rw [List.map_append]; rfl
    have htl : (dblF (fr.take i)).length = i := by rw [dblF_len, List.length_take]; omega
    repeat ((conv => whnf); first | with_reducible refine O_step ?_ | with_reducible refine S_step ?_ | with_reducible refine D_step ?_ | with_reducible refine RO.exit ?_ | with_reducible refine RO.ret ?_ | ((with_reducible refine And.intro ?sc ?_); case sc => exact side) | ((with_reducible refine br_f ?sc ?_); case sc => exact sideB) | ((with_reducible refine br_t ?sc ?_); case sc => exact sideB))
    refine And.intro (fun ha => ?_) (fun ha => ?_)
    · repeat ((conv => whnf); first | with_reducible refine O_step ?_ | with_reducible refine S_step ?_ | with_reducible refine D_step ?_ | with_reducible refine RO.exit ?_ | with_reducible refine RO.ret ?_ | ((with_reducible refine And.intro ?sc ?_); case sc => exact side) | ((with_reducible refine br_f ?sc ?_); case sc => exact sideB) | ((with_reducible refine br_t ?sc ?_); case sc => exact sideB))
      refine hcodes_at ?_
      repeat ((conv => whnf); first | with_reducible refine O_step ?_ | with_reducible refine S_step ?_ | with_reducible refine D_step ?_ | with_reducible refine RO.exit ?_ | with_reducible refine RO.ret ?_ | ((with_reducible refine And.intro ?sc ?_); case sc => exact side) | ((with_reducible refine br_f ?sc ?_); case sc => exact sideB) | ((with_reducible refine br_t ?sc ?_); case sc => exact sideB))
      exact ⟨true, rfl, rfl⟩
    repeat ((conv => whnf); first | with_reducible refine O_step ?_ | with_reducible refine S_step ?_ | with_reducible refine D_step ?_ | with_reducible refine RO.exit ?_ | with_reducible refine RO.ret ?_ | ((with_reducible refine And.intro ?sc ?_); case sc => exact side) | ((with_reducible refine br_f ?sc ?_); case sc => exact sideB) | ((with_reducible refine br_t ?sc ?_); case sc => exact sideB))
    refine And.intro (fun hb => ?_) (fun hb => ?_)
    · repeat ((conv => whnf); first | with_reducible refine O_step ?_ | with_reducible refine S_step ?_ | with_reducible refine D_step ?_ | with_reducible refine RO.exit ?_ | with_reducible refine RO.ret ?_ | ((with_reducible refine And.intro ?sc ?_); case sc => exact side) | ((with_reducible refine br_f ?sc ?_); case sc => exact sideB) | ((with_reducible refine br_t ?sc ?_); case sc => exact sideB))
      refine hcodes_at ?_
      repeat ((conv => whnf); first | with_reducible refine O_step ?_ | with_reducible refine S_step ?_ | with_reducible refine D_step ?_ | with_reducible refine RO.exit ?_ | with_reducible refine RO.ret ?_ | ((with_reducible refine And.intro ?sc ?_); case sc => exact side) | ((with_reducible refine br_f ?sc ?_); case sc => exact sideB) | ((with_reducible refine br_t ?sc ?_); case sc => exact sideB))
      exact ⟨true, rfl, rfl⟩
    rw [hgd] at ha hb
    have ha' : ¬ fr[i] < 0 := by simpa using ha
    have hb' : ¬ (549755813888 : Int) < fr[i] := by simpa using hb
    repeat ((conv => whnf); first | with_reducible refine O_step ?_ | with_reducible refine S_step ?_ | with_reducible refine D_step ?_ | with_reducible refine RO.exit ?_ | with_reducible refine RO.ret ?_ | ((with_reducible refine And.intro ?sc ?_); case sc => exact side) | ((with_reducible refine br_f ?sc ?_); case sc => exact sideB) | ((with_reducible refine br_t ?sc ?_); case sc => exact sideB))
    intro zs hzs
    obtain rfl : zs = [2 * fr[i]] := by rw [hzs, ← hgd]; rfl
    repeat ((conv => whnf); first | with_reducible refine O_step ?_ | with_reducible refine S_step ?_ | with_reducible refine D_step ?_ | with_reducible refine RO.exit ?_ | with_reducible refine RO.ret ?_ | ((with_reducible refine And.intro ?sc ?_); case sc => exact side) | ((with_reducible refine br_f ?sc ?_); case sc => exact sideB) | ((with_reducible refine br_t ?sc ?_); case sc => exact sideB))
    intro c2 hc2
    repeat ((conv => whnf); first | with_reducible refine O_step ?_ | with_reducible refine S_step ?_ | with_reducible refine D_step ?_ | with_reducible refine RO.exit ?_ | with_reducible refine RO.ret ?_ | ((with_reducible refine And.intro ?sc ?_); case sc => exact side) | ((with_reducible refine br_f ?sc ?_); case sc => exact sideB) | ((with_reducible refine br_t ?sc ?_); case sc => exact sideB))
    refine RO.same (i + 1, g + 1, c2) ⟨by show i + 1 ≤ _; omega, by show (dblF (fr.take (i + 1))).length ≤ c2; rw [hdl, List.length_append]; exact hc2, ?_⟩ (show fr.length - (i + 1) < fr.length - i by omega)
      (And.intro rfl (And.intro rfl (And.intro ?_ (And.intro rfl trivial)))) (And.intro rfl (And.intro ?_ trivial))
    · intro x hx
      have hx' : x ∈ fr.take i ++ [fr[i]] := by rw [← htk]; exact hx
      rcases List.mem_append.1 hx' with h | h
      · exact i3 x h
      · obtain rfl := List.mem_singleton.1 h; omega
    · show AV.sl 1 (g + 1) 0 ((dblF (fr.take i)).length + 1) c2 = AV.sl 1 (g + 1) 0 (dblF (fr.take (i + 1))).length c2
      rw [hdl, List.length_append]; rfl
    · show AO.one true (g + 1) (.ints .i64 (dblF (fr.take (i + 1))) c2) = AO.one true (g + 1) (.ints .i64 (dblF (fr.take i) ++ [2 * fr[i]]) c2)
      rw [hdl]
  · have hie : i = fr.length := by simp only [decide_eq_false_iff_not] at hi; omega
    subst hie
    rw [List.take_length] at i2 i3
    have hlt : (fr.take fr.length) = fr := List.take_length
    have hcs := lengthsF_cases fr limit
    have hdb : lengthsF (dblF (fr.take fr.length)) limit = lengthsF fr limit := by rw [hlt]; exact lengthsF_dbl i3 limit
    have hdl : (dblF (fr.take fr.length)).length = fr.length := by rw [hlt, dblF_len]
    have hdg : ∀ j, (dblF (fr.take fr.length)).getD j 0 = 2 * fr.getD j 0 := fun j => by rw [hlt, dblF_getD]
    have hfb : ∀ j, j < fr.length → 0 ≤ fr.getD j 0 ∧ fr.getD j 0 ≤ 549755813888 := fun j hj => i3 _ (getD_memI hj)
    have hF : (lengthsF fr limit).1.length ≤ fr.length ∧ (∀ j, j < (lengthsF fr limit).1.length → 0 ≤ (lengthsF fr limit).1.getD j 0 ∧ (lengthsF fr limit).1.getD j 0 ≤ 15) ∧
        ∀ j k, j < (lengthsF fr limit).1.length → k < (lengthsF fr limit).1.length → fr.getD k 0 < fr.getD j 0 → 0 < fr.getD k 0 → (lengthsF fr limit).1.getD j 0 ≤ (lengthsF fr limit).1.getD k 0 := by
      rcases hcs with ⟨h, _⟩ | ⟨_, h1, h15, _, _, _, _, ok⟩
      · rw [h]; exact ⟨Nat.zero_le _, fun j hj => by simp at hj, fun j k hj => by simp at hj⟩
      · refine ⟨Nat.le_of_eq ok.len, fun j hj => ?_, fun j k hj hk => ?_⟩
        · have := ok.rng (s := j) (by rw [← ok.len]; exact hj)
          omega
        · exact ok.mono j k (by rw [← ok.len]; exact hj) (by rw [← ok.len]; exact hk)
    clear hcs
    generalize hLL : lengthsF fr limit = LL at hF hdb
    obtain ⟨L, e⟩ := LL
    simp only at hF
    obtain ⟨hF1, hF2, hF3⟩ := hF
    repeat ((conv => whnf); first | with_reducible refine O_step ?_ | with_reducible refine S_step ?_ | with_reducible refine D_step ?_ | with_reducible refine RO.exit ?_ | with_reducible refine RO.ret ?_ | ((with_reducible refine And.intro ?sc ?_); case sc => exact side) | ((with_reducible refine br_f ?sc ?_); case sc => exact sideB) | ((with_reducible refine br_t ?sc ?_); case sc => exact sideB))
    refine lengths_at (i := 0) (fr := fr) rfl rfl (by omega) fun g2 c2 hc2 => ?_
    rw [hLL]
    repeat ((conv => whnf); first | with_reducible refine O_step ?_ | with_reducible refine S_step ?_ | with_reducible refine D_step ?_ | with_reducible refine RO.exit ?_ | with_reducible refine RO.ret ?_ | ((with_reducible refine And.intro ?sc ?_); case sc => exact side) | ((with_reducible refine br_f ?sc ?_); case sc => exact sideB) | ((with_reducible refine br_t ?sc ?_); case sc => exact sideB))
    refine lengths_at (i := 1) (fr := dblF (fr.take fr.length)) rfl rfl (by rw [hdl]; omega) fun g3 c3 hc3 => ?_
    rw [hdb]
    repeat ((conv => whnf); first | with_reducible refine O_step ?_ | with_reducible refine S_step ?_ | with_reducible refine D_step ?_ | with_reducible refine RO.exit ?_ | with_reducible refine RO.ret ?_ | ((with_reducible refine And.intro ?sc ?_); case sc => exact side) | ((with_reducible refine br_f ?sc ?_); case sc => exact sideB) | ((with_reducible refine br_t ?sc ?_); case sc => exact sideB))
    refine WO.go (σ := Nat × Int) (fun s => s.1 ≤ L.length ∧ 0 ≤ s.2 ∧ s.2 ≤ s.1 * 17592186044416) (fun s => L.length - s.1)
      (fun s => [(0, .sl 0 0 0 fr.length c), (5, .sl 1 g 0 (dblF (fr.take fr.length)).length c1), (7, .sl 2 g2 0 L.length c2), (9, .sl 3 g3 0 L.length c3), (11, .int .i64 s.2), (12, .int .i64 (2 * s.2)), (13, .int .i64 (s.1 : Int))])
      (fun _ => [.one false 0 (.ints .i64 fr c), .one true g (.ints .i64 (dblF (fr.take fr.length)) c1), .one true g2 (.ints .u8 L c2), .one true g3 (.ints .u8 L c3)]) (0, 0) tb_ok mixed (by kernel_rfl) ⟨Nat.zero_le _, by decide, by decide⟩ (And.intro rfl (And.intro rfl (And.intro rfl (And.intro rfl (And.intro rfl (And.intro rfl (And.intro rfl (trivial)))))))) (And.intro rfl (And.intro rfl (And.intro rfl (And.intro rfl (trivial))))) (fun _ => rfl) (fun _ => rfl) (fun _ => ⟨trivial, trivial, trivial, trivial, trivial⟩) ?_
    rintro ⟨j, a⟩ ⟨j1, j2, j3⟩ d1
    simp only at j1 j2 j3
    repeat ((conv => whnf); first | with_reducible refine O_step ?_ | with_reducible refine S_step ?_ | with_reducible refine D_step ?_ | with_reducible refine RO.exit ?_ | with_reducible refine RO.ret ?_ | ((with_reducible refine And.intro ?sc ?_); case sc => exact side) | ((with_reducible refine br_f ?sc ?_); case sc => exact sideB) | ((with_reducible refine br_t ?sc ?_); case sc => exact sideB))
    refine And.intro (fun hj => ?_) (fun hj => ?_)
    · have hjl : j < L.length := by simp only [decide_eq_true_eq] at hj; omega
      have hjf : j < fr.length := by omega
      have hjd : j < (dblF (fr.take fr.length)).length := by omega
      have b1 : 0 ≤ fr.getD ((j : Int).toNat + 0) 0 ∧ fr.getD ((j : Int).toNat + 0) 0 ≤ 549755813888 := hfb j hjf
      have b2 : 0 ≤ L.getD ((j : Int).toNat + 0) 0 ∧ L.getD ((j : Int).toNat + 0) 0 ≤ 15 := hF2 j hjl
      have b3 : 0 ≤ fr.getD ((j : Int).toNat + 0) 0 * L.getD ((j : Int).toNat + 0) 0 := Int.mul_nonneg b1.1 b2.1
      have b4 : fr.getD ((j : Int).toNat + 0) 0 * L.getD ((j : Int).toNat + 0) 0 ≤ 549755813888 * 15 := Int.mul_le_mul b1.2 b2.2 b2.1 (by decide)
      have b5 : (dblF (fr.take fr.length)).getD ((j : Int).toNat + 0) 0 = 2 * fr.getD ((j : Int).toNat + 0) 0 := hdg _
      have b6 : (dblF (fr.take fr.length)).getD ((j : Int).toNat + 0) 0 * L.getD ((j : Int).toNat + 0) 0 = 2 * (fr.getD ((j : Int).toNat + 0) 0 * L.getD ((j : Int).toNat + 0) 0) := by rw [b5, Int.mul_assoc]
      repeat ((conv => whnf); first | with_reducible refine O_step ?_ | with_reducible refine S_step ?_ | with_reducible refine D_step ?_ | with_reducible refine RO.exit ?_ | with_reducible refine RO.ret ?_ | ((with_reducible refine And.intro ?sc ?_); case sc => exact side) | ((with_reducible refine br_f ?sc ?_); case sc => exact sideB) | ((with_reducible refine br_t ?sc ?_); case sc => exact sideB))
      refine WO.go (σ := Nat) (fun k => k ≤ L.length) (fun k => L.length - k)
        (fun k => [(0, .sl 0 0 0 fr.length c), (5, .sl 1 g 0 (dblF (fr.take fr.length)).length c1), (7, .sl 2 g2 0 L.length c2), (9, .sl 3 g3 0 L.length c3), (11, .int .i64 (a + fr.getD ((j : Int).toNat + 0) 0 * L.getD ((j : Int).toNat + 0) 0)), (12, .int .i64 (2 * (a + fr.getD ((j : Int).toNat + 0) 0 * L.getD ((j : Int).toNat + 0) 0))), (13, .int .i64 (j : Int)), (14, .int .i64 (k : Int))])
        (fun _ => [.one false 0 (.ints .i64 fr c), .one true g (.ints .i64 (dblF (fr.take fr.length)) c1), .one true g2 (.ints .u8 L c2), .one true g3 (.ints .u8 L c3)]) 0 tb_ok mixed (by kernel_rfl) (Nat.zero_le _) (And.intro rfl (And.intro rfl (And.intro rfl (And.intro rfl (And.intro rfl (And.intro ?_ (And.intro rfl (And.intro rfl trivial)))))))) (And.intro rfl (And.intro rfl (And.intro rfl (And.intro rfl (trivial))))) (fun _ => rfl) (fun _ => rfl) (fun _ => ⟨trivial, trivial, trivial, trivial, trivial⟩) ?_
      · show AV.int .i64 (2 * a + (dblF (fr.take fr.length)).getD ((j : Int).toNat + 0) 0 * L.getD ((j : Int).toNat + 0) 0) = AV.int .i64 (2 * (a + fr.getD ((j : Int).toNat + 0) 0 * L.getD ((j : Int).toNat + 0) 0))
        rw [b6, Int.mul_add]
      intro k k1 d2
      have k1 : k ≤ L.length := k1
      repeat ((conv => whnf); first | with_reducible refine O_step ?_ | with_reducible refine S_step ?_ | with_reducible refine D_step ?_ | with_reducible refine RO.exit ?_ | with_reducible refine RO.ret ?_ | ((with_reducible refine And.intro ?sc ?_); case sc => exact side) | ((with_reducible refine br_f ?sc ?_); case sc => exact sideB) | ((with_reducible refine br_t ?sc ?_); case sc => exact sideB))
      refine And.intro (fun hk => ?_) (fun hk => ?_)
      · have hkl : k < L.length := by simp only [decide_eq_true_eq] at hk; omega
        have hkf : k < fr.length := by omega
        have hmo := hF3 j k hjl hkl
        repeat ((conv => whnf); first | with_reducible refine O_step ?_ | with_reducible refine S_step ?_ | with_reducible refine D_step ?_ | with_reducible refine RO.exit ?_ | with_reducible refine RO.ret ?_ | ((with_reducible refine And.intro ?sc ?_); case sc => exact side) | ((with_reducible refine br_f ?sc ?_); case sc => exact sideB) | ((with_reducible refine br_t ?sc ?_); case sc => exact sideB))
        refine And.intro (fun x1 => ?_) (fun x1 => ?_)
        · repeat ((conv => whnf); first | with_reducible refine O_step ?_ | with_reducible refine S_step ?_ | with_reducible refine D_step ?_ | with_reducible refine RO.exit ?_ | with_reducible refine RO.ret ?_ | ((with_reducible refine And.intro ?sc ?_); case sc => exact side) | ((with_reducible refine br_f ?sc ?_); case sc => exact sideB) | ((with_reducible refine br_t ?sc ?_); case sc => exact sideB))
          refine And.intro (fun x2 => ?_) (fun x2 => ?_)
          · repeat ((conv => whnf); first | with_reducible refine O_step ?_ | with_reducible refine S_step ?_ | with_reducible refine D_step ?_ | with_reducible refine RO.exit ?_ | with_reducible refine RO.ret ?_ | ((with_reducible refine And.intro ?sc ?_); case sc => exact side) | ((with_reducible refine br_f ?sc ?_); case sc => exact sideB) | ((with_reducible refine br_t ?sc ?_); case sc => exact sideB))
            refine And.intro (fun x3 => ?_) (fun x3 => ?_)
            · exfalso
              simp only [decide_eq_true_eq] at x1 x2 x3
              have := hmo x1 x2
              exact absurd x3 (Int.not_lt.2 this)
            · repeat ((conv => whnf); first | with_reducible refine O_step ?_ | with_reducible refine S_step ?_ | with_reducible refine D_step ?_ | with_reducible refine RO.exit ?_ | with_reducible refine RO.ret ?_ | ((with_reducible refine And.intro ?sc ?_); case sc => exact side) | ((with_reducible refine br_f ?sc ?_); case sc => exact sideB) | ((with_reducible refine br_t ?sc ?_); case sc => exact sideB))
              refine RO.same (k + 1) (by show k + 1 ≤ _; omega) (show L.length - (k + 1) < L.length - k by omega) (And.intro rfl (And.intro rfl (And.intro rfl (And.intro rfl (And.intro rfl (And.intro rfl (And.intro rfl (And.intro rfl (trivial))))))))) (And.intro rfl (And.intro rfl (And.intro rfl (And.intro rfl (trivial)))))
          · repeat ((conv => whnf); first | with_reducible refine O_step ?_ | with_reducible refine S_step ?_ | with_reducible refine D_step ?_ | with_reducible refine RO.exit ?_ | with_reducible refine RO.ret ?_ | ((with_reducible refine And.intro ?sc ?_); case sc => exact side) | ((with_reducible refine br_f ?sc ?_); case sc => exact sideB) | ((with_reducible refine br_t ?sc ?_); case sc => exact sideB))
            refine RO.same (k + 1) (by show k + 1 ≤ _; omega) (show L.length - (k + 1) < L.length - k by omega) (And.intro rfl (And.intro rfl (And.intro rfl (And.intro rfl (And.intro rfl (And.intro rfl (And.intro rfl (And.intro rfl (trivial))))))))) (And.intro rfl (And.intro rfl (And.intro rfl (And.intro rfl (trivial)))))
        · repeat ((conv => whnf); first | with_reducible refine O_step ?_ | with_reducible refine S_step ?_ | with_reducible refine D_step ?_ | with_reducible refine RO.exit ?_ | with_reducible refine RO.ret ?_ | ((with_reducible refine And.intro ?sc ?_); case sc => exact side) | ((with_reducible refine br_f ?sc ?_); case sc => exact sideB) | ((with_reducible refine br_t ?sc ?_); case sc => exact sideB))
          refine RO.same (k + 1) (by show k + 1 ≤ _; omega) (show L.length - (k + 1) < L.length - k by omega) (And.intro rfl (And.intro rfl (And.intro rfl (And.intro rfl (And.intro rfl (And.intro rfl (And.intro rfl (And.intro rfl (trivial))))))))) (And.intro rfl (And.intro rfl (And.intro rfl (And.intro rfl (trivial)))))
      · repeat ((conv => whnf); first | with_reducible refine O_step ?_ | with_reducible refine S_step ?_ | with_reducible refine D_step ?_ | with_reducible refine RO.exit ?_ | with_reducible refine RO.ret ?_ | ((with_reducible refine And.intro ?sc ?_); case sc => exact side) | ((with_reducible refine br_f ?sc ?_); case sc => exact sideB) | ((with_reducible refine br_t ?sc ?_); case sc => exact sideB))
        refine RO.same (j + 1, a + fr.getD ((j : Int).toNat + 0) 0 * L.getD ((j : Int).toNat + 0) 0) ⟨by show j + 1 ≤ _; omega, by show 0 ≤ a + _; omega, by show a + _ ≤ ((j + 1 : Nat) : Int) * _; omega⟩ (show L.length - (j + 1) < L.length - j by omega) (And.intro rfl (And.intro rfl (And.intro rfl (And.intro rfl (And.intro rfl (And.intro rfl (And.intro rfl (trivial)))))))) (And.intro rfl (And.intro rfl (And.intro rfl (And.intro rfl (trivial)))))
    · repeat ((conv => whnf); first | with_reducible refine O_step ?_ | with_reducible refine S_step ?_ | with_reducible refine D_step ?_ | with_reducible refine RO.exit ?_ | with_reducible refine RO.ret ?_ | ((with_reducible refine And.intro ?sc ?_); case sc => exact side) | ((with_reducible refine br_f ?sc ?_); case sc => exact sideB) | ((with_reducible refine br_t ?sc ?_); case sc => exact sideB))
      refine hcodes_at ?_
      repeat ((conv => whnf); first | with_reducible refine O_step ?_ | with_reducible refine S_step ?_ | with_reducible refine D_step ?_ | with_reducible refine RO.exit ?_ | with_reducible refine RO.ret ?_ | ((with_reducible refine And.intro ?sc ?_); case sc => exact side) | ((with_reducible refine br_f ?sc ?_); case sc => exact sideB) | ((with_reducible refine br_t ?sc ?_); case sc => exact sideB))
      exact ⟨true, rfl, rfl⟩
end Go.Proofs.Ytdnmbmnfglbfoaa
