/- The document's own bits, walked: Of, Bytes. -/
import Derived.Test.YthbmddaemdcamaaRe2
set_option linter.unusedVariables false
set_option linter.unusedSimpArgs false
open Go.RowKit
namespace Go.Proofs.Ythbmddaemdcamaa
set_option maxRecDepth 10000

theorem rof_call {xs : List Int} {c0 c : Nat} (hl : xs.length ≤ 100000000) (hxs : ∀ x ∈ xs, 0 ≤ x ∧ x < 256) {Kp} :
    CallA Try.prog 22 [.sl 0 0 0 xs.length c0] [.one false 0 (.ints .u8 xs c)]
      (fun r M => ∃ g c', r = .sl 1 g 0 (unpack xs).length c' ∧ M = [.one false 0 (.ints .u8 xs c), .one true g (.bools (unpack xs) c')] ∧ (unpack xs).length ≤ c') Kp := by
  refine CallA.post_sub ?_
  refine walk22 (fun _ => [0]) [] rfl ?_
  refine WA.view (l := [(0, .sl 0 0 0 xs.length c0), (3, .ns), (4, .int .i64 0)]) (l' := [(0, .sl 0 0 0 xs.length c0), (3, .sl 1 0 0 0 0), (4, .int .i64 0)]) ?_ rfl (Vw.nils (x := .bools [] 0) ⟨rfl, rfl⟩ ?_) fun d => ?_
  · exact And.intro rfl (And.intro rfl (And.intro rfl trivial))
  · exact And.intro (.inl rfl) (And.intro (.inr ⟨rfl, rfl⟩) (And.intro (.inl rfl) trivial))
  refine WA.loop (σ := Nat × Nat × Nat) (fun (j, g, c') => j ≤ xs.length ∧ (unpack (xs.take j)).length ≤ c') (fun (j, _, _) => xs.length - j)
    (fun (j, g, c') => [(0, .sl 0 0 0 xs.length c0), (3, .sl 1 g 0 (unpack (xs.take j)).length c'), (4, .int .i64 j)]) (fun (j, g, c') => [.one false 0 (.ints .u8 xs c), .one true g (.bools (unpack (xs.take j)) c')]) (0, 0, 0) tb_ok mixed (by kernel_rfl)
    ⟨⟨Nat.zero_le _, Nat.le_refl _⟩, And.intro rfl (And.intro rfl (And.intro rfl trivial)), And.intro rfl (And.intro rfl trivial)⟩ (fun _ => rfl) (fun _ => rfl) (fun _ => ⟨trivial, trivial, trivial⟩) ?_
  rintro ⟨j, g, c'⟩ ⟨h1, h2⟩ dd
  refine And.intro (fun hc => ?_) (fun hc => ?_)
  · simp only [decide_eq_true_eq] at hc
    have hjl : j < xs.length := by omega
    have hg : xs.getD ((j : Int).toNat + 0) 0 = xs[j] := by simp [List.getD_eq_getElem?_getD, hjl]
    have hx := hxs _ (List.getElem_mem hjl)
    repeat (refine And.intro (by first | exact rfl | omega) ?_)
    refine CallA.lift [] (rbits_call (v := xs.getD ((j : Int).toNat + 0) 0 % 4294967296) (n := 8) (by omega) (by omega) (Kp := fun _ _ => False)) rfl rfl trivial trivial ?_ (fun _ _ h => h.elim)
    rw [hg, show xs[j] % 4294967296 = xs[j] from by omega]
    rintro r M ⟨g2, c2, rfl, rfl, hc2⟩
    refine ⟨rfl, ?_⟩
    have hbl := bitsOf_length 8 xs[j]
    have hul := unpack_length (xs.take j)
    have htl : (xs.take j).length = j := by simp; omega
    repeat (refine And.intro (by first | exact rfl | omega | exact ⟨rfl, rfl, rfl, Nat.le_refl _, h2⟩ | exact Nat.le_of_eq (Nat.zero_add _)) ?_)
    intro zs hzs
    have hzs' : zs = bitsOf xs[j] 8 := by
      rw [hzs]
      show ((bitsOf xs[j] 8).drop 0).take (bitsOf xs[j] 8).length = _
      simp
    subst hzs'
    repeat (refine And.intro (by first | exact rfl | omega | (refine And.intro ?_ ?_ <;> (show _ ≤ _) <;> simp only [Int.toNat, Int.ofNat_eq_natCast] <;> omega) | (dsimp only; omega)) ?_)
    intro c3 hc3
    repeat (refine And.intro (by first | exact rfl | omega) ?_)
    have hu1 : unpack (xs.take (j + 1)) = unpack (xs.take j) ++ bitsOf xs[j] 8 := by
      unfold unpack
      rw [List.take_succ_eq_append_getElem hjl, List.flatMap_append]
      simp only [List.flatMap_cons, List.flatMap_nil, List.append_nil]
    have hc3' : (unpack (xs.take j)).length + (bitsOf xs[j] 8).length ≤ c3 := hc3
    refine Exists.intro (j + 1, g + 1, c3) (And.intro ⟨⟨by omega, by rw [hu1, List.length_append]; exact hc3'⟩, show xs.length - (j + 1) < xs.length - j by omega⟩ (And.intro (And.intro rfl (And.intro ?_ (And.intro ?_ trivial))) (And.intro rfl (And.intro ?_ trivial))))
    · show AV.sl 1 (g + 1) 0 ((unpack (xs.take j)).length + (bitsOf xs[j] 8).length) c3 = AV.sl 1 (g + 1) 0 (unpack (xs.take (j + 1))).length c3
      rw [hu1, List.length_append]
    · show AV.int .i64 ((j : Int) + 1) = AV.int .i64 ((j + 1 : Nat) : Int)
      push_cast; rfl
    · show AO.one true (g + 1) (.bools (unpack (xs.take (j + 1))) c3) = AO.one true (g + 1) (.bools (unpack (xs.take j) ++ bitsOf xs[j] 8) c3)
      rw [hu1]
  · simp only [decide_eq_false_iff_not] at hc
    have hj : j = xs.length := by omega
    subst hj
    rw [List.take_length] at h2
    exact Exists.intro [AO.one false 0 (.ints .u8 xs c), AO.one true g (.bools (unpack xs) c')] (And.intro (And.intro rfl (And.intro (by rw [List.take_length]) trivial)) (And.intro ⟨trivial, trivial, trivial⟩ (And.intro rfl ⟨g, c', by rw [List.take_length], rfl, h2⟩)))

theorem bytesF_pack (row : List Bool) : bytesF row = packB ((row.length + 7) / 8) row := by
  unfold bytesF
  split
  · rename_i h
    rw [show (row.length + 7) / 8 = row.length / 8 from by omega]; rfl
  · rename_i h
    rw [show (row.length + 7) / 8 = row.length / 8 + 1 from by omega, packB_append]
    have : (rest row).take 8 = rest row := List.take_of_length_le (by rw [rest_length]; omega)
    show packB (row.length / 8) row ++ [num (rest row)] = packB (row.length / 8) row ++ [num ((rest row).take 8)]
    rw [this]

theorem rbytes_call {row : List Bool} {c0 c : Nat} (hl : row.length ≤ 1000000000) (hc0 : row.length ≤ c0 ∧ c0 ≤ c) {Kp} :
    CallA Try.prog 20 [.sl 0 0 0 row.length c0] [.one false 0 (.bools row c)]
      (fun r M => ∃ g c', r = .sl 1 g 0 (bytesF row).length c' ∧ M = [.one false 0 (.bools row c), .one true g (.ints .u8 (bytesF row) c')] ∧ (bytesF row).length ≤ c') Kp := by
  refine CallA.post_sub ?_
  refine walk20 (fun _ => [0]) [] rfl ?_
  refine WA.view (l := [(0, .sl 0 0 0 row.length c0), (3, .ns), (4, .int .i64 0)]) (l' := [(0, .sl 0 0 0 row.length c0), (3, .sl 1 0 0 0 0), (4, .int .i64 0)]) ?_ rfl (Vw.nils (x := .ints .u8 [] 0) ⟨rfl, rfl⟩ ?_) fun d => ?_
  · exact And.intro rfl (And.intro rfl (And.intro rfl trivial))
  · exact And.intro (.inl rfl) (And.intro (.inr ⟨rfl, rfl⟩) (And.intro (.inl rfl) trivial))
  refine WA.loop (σ := Nat × Nat × Nat) (fun (j, g, c') => j ≤ (row.length + 7) / 8 ∧ (packB j row).length ≤ c') (fun (j, _, _) => row.length - j)
    (fun (j, g, c') => [(0, .sl 0 0 0 row.length c0), (3, .sl 1 g 0 (packB j row).length c'), (4, .int .i64 ((8 * j : Nat) : Int))]) (fun (j, g, c') => [.one false 0 (.bools row c), .one true g (.ints .u8 (packB j row) c')]) (0, 0, 0) tb_ok mixed (by kernel_rfl)
    ⟨⟨Nat.zero_le _, Nat.le_refl _⟩, And.intro rfl (And.intro rfl (And.intro rfl trivial)), And.intro rfl (And.intro rfl trivial)⟩ (fun _ => rfl) (fun _ => rfl) (fun _ => ⟨trivial, trivial, trivial⟩) ?_
  rintro ⟨j, g, c'⟩ ⟨h1, h2⟩ dd
  have hpl := packB_length j row
  refine And.intro (fun hc => ?_) (fun hc => ?_)
  · simp only [decide_eq_true_eq] at hc
    repeat (refine And.intro (by first | exact rfl | omega) ?_)
    have hxl : ((row.drop (8 * j)).take 8).length = min 8 (row.length - 8 * j) := by simp
    have hoff : offS c0 (8 * j) 0 1 = 8 * j := by
      unfold offS; split
      · omega
      · omega
    refine CallA.lift [.win 0 0 (offS c0 (8 * j) 0 1)] (rnumber_call (xs := (row.drop (8 * j)).take 8) (c0 := c0 - 8 * j) (c := min 8 (row.length - 8 * j)) (Kp := fun _ _ => False) (K := fun r M => r = .int .u32 (num ((row.drop (8 * j)).take 8)) ∧ M = [.one false 0 (.bools ((row.drop (8 * j)).take 8) (min 8 (row.length - 8 * j)))]) (by omega) ⟨rfl, rfl⟩)
      ?_ rfl ⟨⟨_, _, _, rfl, slot_one rfl, WinC.bools ?_ ?_⟩, trivial⟩ ⟨trivial, trivial⟩ ?_ (fun _ _ h => h.elim)
    · show [AV.sl 0 0 (offS c0 (8 * j) 0 1) ((row.drop (8 * j)).take 8).length (c0 - 8 * j)] = [AV.sl 0 0 (offS c0 (((8 * j : Nat) : Int)).toNat 0 1) ((min (((8 * j : Nat) : Int) + 8) (row.length : Int)).toNat - (((8 * j : Nat) : Int)).toNat) (c0 - (((8 * j : Nat) : Int)).toNat)]
      rw [hxl, Int.toNat_natCast, show (min (((8 * j : Nat) : Int) + 8) (row.length : Int)).toNat - 8 * j = min 8 (row.length - 8 * j) from by omega]
    · omega
    · rw [hoff, hxl]
      rw [List.take_eq_take_iff]; simp
    · rintro r M ⟨rfl, rfl⟩
      refine ⟨⟨rfl, rfl⟩, ?_⟩
      repeat (refine And.intro (by first | exact rfl | exact Nat.le_of_ble_eq_true rfl | omega | exact ⟨rfl, rfl, rfl, Nat.le_refl _, h2⟩) ?_)
      intro zs hzs
      have hb := packB_byte 1 (row.drop (8 * j)) _ (List.mem_singleton.2 rfl)
      have hm : num ((row.drop (8 * j)).take 8) % 256 = num ((row.drop (8 * j)).take 8) := by omega
      obtain rfl : zs = [num ((row.drop (8 * j)).take 8) % 256] := hzs
      repeat (refine And.intro (by first | exact rfl | omega | (dsimp only; omega)) ?_)
      intro c3 hc3
      repeat (refine And.intro (by first | exact rfl | omega) ?_)
      have hp1 : packB (j + 1) row = packB j row ++ [num ((row.drop (8 * j)).take 8) % 256] := by
        rw [packB_append, hm]; rfl
      refine Exists.intro (j + 1, g + 1, c3) (And.intro ⟨⟨by omega, by rw [packB_length]; omega⟩, show row.length - (j + 1) < row.length - j by omega⟩ (And.intro (And.intro rfl (And.intro ?_ (And.intro ?_ trivial))) (And.intro rfl (And.intro ?_ trivial))))
      · show AV.sl 1 (g + 1) 0 ((packB j row).length + 1) c3 = AV.sl 1 (g + 1) 0 (packB (j + 1) row).length c3
        rw [hp1, List.length_append]; rfl
      · show AV.int .i64 (((8 * j : Nat) : Int) + 8) = AV.int .i64 ((8 * (j + 1) : Nat) : Int)
        congr 1
      · show AO.one true (g + 1) (.ints .u8 (packB (j + 1) row) c3) = AO.one true (g + 1) (.ints .u8 (packB j row ++ [num ((row.drop (8 * j)).take 8) % 256]) c3)
        rw [hp1]
  · simp only [decide_eq_false_iff_not] at hc
    have hj : j = (row.length + 7) / 8 := by omega
    rw [bytesF_pack, ← hj]
    exact Exists.intro [AO.one false 0 (.bools row c), AO.one true g (.ints .u8 (packB j row) c')] (And.intro (And.intro rfl (And.intro rfl trivial)) (And.intro ⟨trivial, trivial, trivial⟩ (And.intro rfl ⟨g, c', rfl, rfl, h2⟩)))
end Go.Proofs.Ythbmddaemdcamaa
