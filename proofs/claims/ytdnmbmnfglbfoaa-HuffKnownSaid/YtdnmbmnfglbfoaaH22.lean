/- Layer 6, plain: what Lengths answers. -/
import Derived.Test.YtdnmbmnfglbfoaaH21

set_option linter.unusedVariables false

set_option linter.unusedSimpArgs false

open Go.RowKit

namespace Go.Proofs.Ytdnmbmnfglbfoaa

theorem getD_set (l : List Int) (i j : Nat) (v : Int) : (l.set i v).getD j 0 = if i = j ∧ i < l.length then v else l.getD j 0 := by
  simp only [List.getD_eq_getElem?_getD, List.getElem?_set]
  by_cases e : i = j
  · subst e
    by_cases h : i < l.length
    · rw [if_pos rfl, if_pos h, if_pos ⟨rfl, h⟩]; rfl
    · rw [if_pos rfl, if_neg h, if_neg (fun x => h x.2), List.getElem?_eq_none (by omega)]
  · rw [if_neg e, if_neg (fun x => e x.1)]
theorem addU_cons (s : Nat) (used : List Nat) (v : Int) (uv out : List Int) : addU (s :: used) (v :: uv) out = addU used uv (out.set s ((out.getD s 0 + v % 256) % 256)) := rfl
theorem addU_other {s : Nat} : ∀ {used : List Nat} {uv out : List Int}, s ∉ used → (addU used uv out).getD s 0 = out.getD s 0
  | [], _, _, _ => rfl
  | _ :: _, [], _, _ => by simp [addU]
  | x :: used, v :: uv, out, h => by
    rw [addU_cons, addU_other (fun h' => h (List.mem_cons_of_mem _ h')), getD_set, if_neg (fun h' => h (by rw [h'.1]; exact List.mem_cons_self ..))]
theorem addU_get : ∀ {used : List Nat} {uv out : List Int} {i : Nat}, used.Nodup → (∀ s ∈ used, s < out.length) → used.length = uv.length → i < used.length →
    (addU used uv out).getD (used.getD i 0) 0 = (out.getD (used.getD i 0) 0 + uv.getD i 0 % 256) % 256
  | [], _, _, i, _, _, _, hi => by simp at hi
  | _ :: _, [], _, _, _, _, hl, _ => by simp at hl
  | x :: used, v :: uv, out, i, hn, hs, hl, hi => by
    obtain ⟨n1, n2⟩ := List.nodup_cons.1 hn
    rw [addU_cons]
    cases i with
    | zero =>
      show (addU used uv _).getD x 0 = (out.getD x 0 + v % 256) % 256
      rw [addU_other n1, getD_set, if_pos ⟨rfl, hs x (List.mem_cons_self ..)⟩]
    | succ i =>
      have hi' : i < used.length := by simpa using hi
      show (addU used uv _).getD (used.getD i 0) 0 = (out.getD (used.getD i 0) 0 + uv.getD i 0 % 256) % 256
      rw [addU_get n2 (fun s h => by rw [List.length_set]; exact hs s (List.mem_cons_of_mem _ h)) (by simpa using hl) hi', getD_set, if_neg (fun h => n1 (by rw [h.1]; exact getD_memN hi'))]
section

variable {fr : List Int}

theorem usedF_nodup (fr : List Int) : (usedF fr).Nodup := by
  unfold usedF; exact List.Pairwise.filter _ List.nodup_range
theorem outT_get (hb : fr.any badI = false) (hl : fr.length ≤ 320) {K : Nat} (hK : K ≤ 15) {i : Nat} (hi : i < nF fr) : ∀ t, t ≤ (srt fr K).length → (outT fr (rowsF fr K) ((srt fr K).take t)).getD ((usedF fr).getD i 0) 0 = uT fr K t i % 256
  | 0, _ => by
    have hm := usedF_mem (getD_memN (d := 0) hi)
    simp [outT, uT, sumI, List.getD_eq_getElem?_getD, List.getElem?_replicate]
    split <;> rfl
  | t + 1, ht => by
    have ih := outT_get hb hl hK hi t (by omega)
    have hx : (srt fr K)[t]'(by omega) ∈ srt fr K := List.getElem_mem _
    obtain ⟨y, hy, _, hyu⟩ := popsF_start_mem (L := (rowsF fr K).all) hx
    have ok := rowsF_ok hb hl K hK
    have hul := ok.ul _ (ok.items y hy).1
    rw [hyu] at hul
    have hlen := outT_len fr (rowsF fr K) ((srt fr K).take t)
    rw [List.take_succ_eq_append_getElem (by omega), outT_snoc, addU_get (usedF_nodup fr) (fun s hs => by rw [hlen]; exact (usedF_mem hs).1) hul.symm hi, ih]
    unfold uT
    rw [List.take_succ_eq_append_getElem (by omega), sumI_append]
    simp only [sumI]
    unfold vF
    omega
theorem outT_other {r : Row} {s : Nat} (hs : s ∉ usedF fr) : ∀ t : List It, (outT fr r t).getD s 0 = 0 := by
  intro t
  obtain ⟨n, hn⟩ : ∃ n, t.length = n := ⟨_, rfl⟩
  induction n generalizing t with
  | zero =>
    obtain rfl := List.eq_nil_of_length_eq_zero hn
    simp [outT, List.getD_eq_getElem?_getD, List.getElem?_replicate]
    split <;> rfl
  | succ n ih =>
    rcases List.eq_nil_or_concat t with rfl | ⟨t, x, rfl⟩
    · simp at hn
    · simp only [List.concat_eq_append] at hn ⊢
      rw [outT_snoc, addU_other hs]
      exact ih t (by rw [List.length_append] at hn; simpa using hn)
theorem used_iff {s : Nat} : s ∈ usedF fr ↔ s < fr.length ∧ 0 < fr.getD s 0 := by
  unfold usedF
  simp only [List.mem_filter, List.mem_range, decide_eq_true_eq]
theorem used_ix {s : Nat} (h : s ∈ usedF fr) : ∃ i, i < nF fr ∧ (usedF fr).getD i 0 = s := by
  obtain ⟨i, hi, e⟩ := List.getElem_of_mem h
  exact ⟨i, hi, by rw [List.getD_eq_getElem?_getD, List.getElem?_eq_getElem hi]; exact e⟩
theorem sumN_filter (p : Nat → Bool) (g : Nat → Int) : ∀ N, sumN N (fun s => if p s = true then g s else 0) = sumN ((List.range N).filter p).length (fun i => g (((List.range N).filter p).getD i 0))
  | 0 => rfl
  | N + 1 => by
    simp only [sumN]
    rw [sumN_filter p g N, List.range_succ, List.filter_append]
    by_cases h : p N = true
    · rw [if_pos h, List.filter_cons_of_pos h, List.filter_nil, List.length_append]
      show _ = sumN (((List.range N).filter p).length + 1) _
      simp only [sumN]
      rw [show (((List.range N).filter p) ++ [N]).getD ((List.range N).filter p).length 0 = N by simp [List.getD_eq_getElem?_getD]]
      congr 1
      exact sumN_congr fun i hi => by simp [List.getD_eq_getElem?_getD, List.getElem?_append_left hi]
    · rw [if_neg h, List.filter_cons_of_neg h, List.filter_nil, List.append_nil]; omega
theorem sumN_used (g : Nat → Int) : sumN fr.length (fun s => if 0 < fr.getD s 0 then g s else 0) = sumN (nF fr) (fun i => g ((usedF fr).getD i 0)) := by
  have := sumN_filter (fun i => decide (0 < fr.getD i 0)) g fr.length
  simp only [decide_eq_true_eq] at this
  exact this
/-- What Lengths answers is a code within the limit; who is more frequent has no longer one. -/
structure LensOk (fr : List Int) (K : Nat) (l : List Int) : Prop where
  len : l.length = fr.length
  pos : ∀ s, s < fr.length → 0 < fr.getD s 0 → 1 ≤ l.getD s 0 ∧ l.getD s 0 ≤ K
  zero : ∀ s, s < fr.length → ¬ 0 < fr.getD s 0 → l.getD s 0 = 0
  one : nF fr = 1 → ∀ s, l.getD s 0 ≤ 1
  mono : ∀ i k, i < fr.length → k < fr.length → fr.getD k 0 < fr.getD i 0 → 0 < fr.getD k 0 → l.getD i 0 ≤ l.getD k 0
  kraft : 2 ≤ nF fr → sumN fr.length (fun s => if 0 < fr.getD s 0 then 2 ^ (15 - (l.getD s 0).toNat) else 0) = 32768
  cost : 2 ≤ nF fr → sumN fr.length (fun s => if 0 < fr.getD s 0 then fr.getD s 0 * l.getD s 0 else 0) = wT fr K (2 * nF fr - 2)
theorem rep_getD (n s : Nat) : (List.replicate n (0 : Int)).getD s 0 = 0 := by
  simp [List.getD_eq_getElem?_getD, List.getElem?_replicate]
  split <;> rfl
theorem lens_ok (hb : fr.any badI = false) (hl : fr.length ≤ 320) {K : Nat} (h1 : 1 ≤ K) (h15 : K ≤ 15) (hK : nF fr ≤ 2 ^ K) : LensOk fr K (hlenF fr K) := by
  have hu0 : ∀ s, s < fr.length → 0 < fr.getD s 0 → ∃ i, i < nF fr ∧ (usedF fr).getD i 0 = s := fun s a b => used_ix (used_iff.2 ⟨a, b⟩)
  rcases (show nF fr = 0 ∨ nF fr = 1 ∨ 2 ≤ nF fr by omega) with hn | hn | hn
  · have hno : ∀ s, s < fr.length → ¬ 0 < fr.getD s 0 := by
      intro s a b
      obtain ⟨i, hi, _⟩ := hu0 s a b
      omega
    rw [lenF_zero K hn]
    exact ⟨by simp, fun s a b => absurd b (hno s a), fun s _ _ => rep_getD _ _, fun h => by omega, fun i k hi hk _ h => absurd h (hno k hk), fun h => by omega, fun h => by omega⟩
  · rw [lenF_one K hn]
    have hin : ∀ s, s < fr.length → 0 < fr.getD s 0 → (usedF fr).getD 0 0 = s := by
      intro s a b
      obtain ⟨i, hi, e⟩ := hu0 s a b
      obtain rfl : i = 0 := by omega
      exact e
    have hm := usedF_mem (getD_memN (l := usedF fr) (j := 0) (d := 0) (by have : (usedF fr).length = 1 := hn; omega))
    refine ⟨by simp, ?_, ?_, ?_, ?_, fun h => by omega, fun h => by omega⟩
    · intro s a b
      rw [getD_set, if_pos ⟨hin s a b, by rw [List.length_replicate]; exact hm.1⟩]; omega
    · intro s a b
      rw [getD_set, if_neg (fun e => b (by rw [← e.1]; exact hm.2)), rep_getD]
    · intro _ s
      rw [getD_set, rep_getD]; split <;> omega
    · intro i k hi hk h1 h2
      have e1 := hin i hi (by omega)
      have e2 := hin k hk h2
      rw [← e1, ← e2]; exact Int.le_refl _
  · obtain ⟨a1, a2, a3, a4⟩ := len_ok hb hl h1 h15 hn hK
    have hlen : (hlenF fr K).length = fr.length := lenF_len fr K
    have ht : 2 * nF fr - 2 ≤ (srt fr K).length := by rw [srt_len]; exact rowsF_enough fr h1 hK
    have hget : ∀ i, i < nF fr → (hlenF fr K).getD ((usedF fr).getD i 0) 0 = lenT fr K i := by
      intro i hi
      rw [lenF_two K hn]
      have := outT_get hb hl h15 hi (2 * nF fr - 2) ht
      have b := a1 i hi
      refine Eq.trans this ?_
      show lenT fr K i % 256 = lenT fr K i
      omega
    refine ⟨hlen, ?_, ?_, fun h => by omega, ?_, fun _ => ?_, fun _ => ?_⟩
    · intro s a b
      obtain ⟨i, hi, rfl⟩ := hu0 s a b
      rw [hget i hi]; exact a1 i hi
    · intro s a b
      rw [lenF_two K hn]
      exact outT_other (fun h => b (used_iff.1 h).2) _
    · intro i k hi hk hw hp
      obtain ⟨i', hi', rfl⟩ := hu0 i hi (by omega)
      obtain ⟨k', hk', rfl⟩ := hu0 k hk hp
      rw [hget i' hi', hget k' hk']
      exact a2 i' k' hi' hk' hw
    · rw [sumN_used (fun s => 2 ^ (15 - ((hlenF fr K).getD s 0).toNat)), ← a3]
      exact sumN_congr fun i hi => by rw [hget i hi]
    · rw [sumN_used (fun s => fr.getD s 0 * (hlenF fr K).getD s 0), a4]
      exact sumN_congr fun i hi => by rw [hget i hi]; rfl
end

end Go.Proofs.Ytdnmbmnfglbfoaa
