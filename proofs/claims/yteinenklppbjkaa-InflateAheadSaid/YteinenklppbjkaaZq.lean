/- Layer 8, plainly: streams that are laid; fuel. -/
import Derived.Test.YteinenklppbjkaaZp

set_option linter.unusedVariables false

set_option linter.unusedSimpArgs false

open Go.RowKit

namespace Go.Proofs.Yteinenklppbjkaa

theorem DP.run_laid {α : Type} {row p q : List Bool} {v : Int} {n lim : Nat} {k : Int → DP α} {s : DS} (hr : row = p ++ (bitsOf v n ++ q)) (ha : s.a = p.length) (h0 : 0 ≤ v) (h : v < 2 ^ n) :
    (DP.get n k).run row lim s = (k v).run row lim { s with a := s.a + n } := by
  rw [DP.run, if_pos (by rw [hr]; simp [bitsOf_length]; omega), hr, ha, num_row p q v n h0 h]
theorem pRaw_laid {row : List Bool} {lim : Nat} : ∀ (ys : List Int) (p q : List Bool) (s : DS), row = p ++ (unpack ys ++ q) → s.a = p.length → (∀ y ∈ ys, 0 ≤ y ∧ y < 256) → s.out.length + ys.length ≤ lim →
    (pRaw ys.length).run row lim s = .ok ((), ⟨s.a + 8 * ys.length, s.out ++ ys⟩)
  | [], p, q, s, _, _, _, _ => by
    obtain ⟨a, o⟩ := s
    simp [pRaw, DP.run]
  | y :: ys, p, q, s, hr, ha, hy, hl => by
    have hyb := hy y List.mem_cons_self
    rw [List.length_cons, pRaw, DP.run_laid (p := p) (v := y) (n := 8) (q := unpack ys ++ q) (by rw [hr, unpack_cons, List.append_assoc]) ha hyb.1 (by have := hyb.2; omega), DP.run, if_neg (show ¬ lim ≤ s.out.length by simp only [List.length_cons] at hl; omega),
      pRaw_laid ys (p ++ bitsOf y 8) q ⟨s.a + 8, s.out ++ [y]⟩ (by rw [hr, unpack_cons]; simp [List.append_assoc]) (by rw [List.length_append, bitsOf_length, ha]) (fun z hz => hy z (List.mem_cons_of_mem _ hz)) (by simp only [List.length_append, List.length_cons, List.length_nil] at hl ⊢; omega)]
    simp only [List.append_assoc, List.cons_append, List.nil_append]
    rw [show s.a + 8 + 8 * ys.length = s.a + 8 * (ys.length + 1) by omega]
/-- A stored block that is laid is read. -/
theorem pStored_laid {row : List Bool} {lim : Nat} {ys : List Int} {p q : List Bool} {s : DS} (hr : row = p ++ (bitsOf (ys.length : Int) 16 ++ (bitsOf (65535 - (ys.length : Int)) 16 ++ (unpack ys ++ q)))) (ha : (s.a + 7) / 8 * 8 = p.length) (hl : ys.length ≤ 65535) (hy : ∀ y ∈ ys, 0 ≤ y ∧ y < 256) (hlim : s.out.length + ys.length ≤ lim) :
    pStored.run row lim s = .ok ((), ⟨p.length + 32 + 8 * ys.length, s.out ++ ys⟩) := by
  rw [pStored, DP.run, DP.run_laid (p := p) hr ha (by omega) (by omega), DP.run_laid (p := p ++ bitsOf (ys.length : Int) 16) (v := 65535 - (ys.length : Int)) (q := unpack ys ++ q) (by rw [hr]; simp [List.append_assoc]) (by show (s.a + 7) / 8 * 8 + 16 = _; rw [List.length_append, bitsOf_length, ha]) (by omega) (by omega),
    if_pos (by omega), DP.run, if_neg (show ¬ (lim : Int) - s.out.length < ys.length by omega), Int.toNat_natCast]
  have e := pRaw_laid (row := row) (lim := lim) ys (p ++ bitsOf (ys.length : Int) 16 ++ bitsOf (65535 - (ys.length : Int)) 16) q ⟨(s.a + 7) / 8 * 8 + 16 + 16, s.out⟩ (by rw [hr]; simp [List.append_assoc]) (by show (s.a + 7) / 8 * 8 + 16 + 16 = _; rw [List.length_append, List.length_append, bitsOf_length, bitsOf_length, ha]) hy hlim
  simp only [ha] at e ⊢
  exact e
/-- More fuel than bits. -/
theorem pInf_fuel {row : List Bool} {lim : Nat} : ∀ (f f' : Nat) (s : DS), s.out.length ≤ lim → row.length < f + s.a → row.length < f' + s.a → (pInf f).run row lim s = (pInf f').run row lim s
  | 0, 0, s, _, _, _ => rfl
  | 0, f' + 1, s, _, h, _ => by
    simp only [pInf, DP.run]
    rw [if_neg (by omega)]
  | f + 1, 0, s, _, _, h => by
    simp only [pInf, DP.run]
    rw [if_neg (by omega)]
  | f + 1, f' + 1, s, ho, h1, h2 => by
    simp only [pInf, DP.run]
    by_cases c1 : s.a + 1 ≤ row.length
    · rw [if_pos c1, if_pos c1]
      by_cases c2 : s.a + 1 + 2 ≤ row.length
      · rw [if_pos c2, if_pos c2, DP.run_bind, DP.run_bind]
        generalize hR : (pBlock _).run row lim _ = R
        cases R with
        | error e => rfl
        | ok r =>
          obtain ⟨_, s'⟩ := r
          simp only
          have hm := DP.run_len _ _ (by exact ho) hR
          split
          · exact pInf_fuel f f' s' hm.1 (by have h3 : s.a + 1 + 2 ≤ s'.a := hm.2.2; omega) (by have h3 : s.a + 1 + 2 ≤ s'.a := hm.2.2; omega)
          · rfl
      · rw [if_neg c2, if_neg c2]
    · rw [if_neg c1, if_neg c1]
/-- A stored block ahead of a stream. -/
theorem infR_ahead {b ys : List Int} {lim lim' : Nat} {s : DS} (h : infR b lim = .ok ((), s)) (hb : b.length ≤ 500) (hyl : ys.length ≤ 2000) (hy : ∀ y ∈ ys, 0 ≤ y ∧ y < 256) (hl : lim + ys.length ≤ lim') :
    infR ([0, (ys.length : Int) % 256, (ys.length : Int) / 256, 255 - (ys.length : Int) % 256, 255 - (ys.length : Int) / 256] ++ ys ++ b) lim' = .ok ((), ⟨8 * (ys.length + 5) + s.a, ys ++ s.out⟩) := by
  obtain ⟨k, hk⟩ : ∃ k : Int, (ys.length : Int) = k := ⟨_, rfl⟩
  have e16 : bitsOf k 16 = bitsOf (k % 256) 8 ++ bitsOf (k / 256) 8 := bitsOf_split k 8 8
  have e16' : bitsOf (65535 - k) 16 = bitsOf (255 - k % 256) 8 ++ bitsOf (255 - k / 256) 8 := by
    have := bitsOf_split (65535 - k) 8 8
    rw [show (65535 - k) % 2 ^ 8 = 255 - k % 256 by omega, show (65535 - k) / 2 ^ 8 = 255 - k / 256 by omega] at this
    exact this
  obtain ⟨row, hrow⟩ : ∃ row, row = unpack ([0, k % 256, k / 256, 255 - k % 256, 255 - k / 256] ++ ys ++ b) := ⟨_, rfl⟩
  have hr : row = bitsOf 0 8 ++ (bitsOf k 16 ++ (bitsOf (65535 - k) 16 ++ (unpack ys ++ unpack b))) := by
    rw [hrow, e16, e16', unpack_append, unpack_append]
    simp [unpack]
  have hlen : row.length = 8 * (ys.length + 5) + 8 * b.length := by
    rw [hr]; simp [bitsOf_length, unpack_length]; omega
  rw [hk, infR_def, ← hrow, show FI = 8000000 + 1 from rfl, pInf]
  rw [infR_def] at h
  have h3 : bitsOf 0 8 = [] ++ (bitsOf 0 1 ++ (bitsOf 0 2 ++ bitsOf 0 5)) := by decide
  rw [DP.run_laid (p := []) (v := 0) (n := 1) (q := bitsOf 0 2 ++ (bitsOf 0 5 ++ (bitsOf k 16 ++ (bitsOf (65535 - k) 16 ++ (unpack ys ++ unpack b))))) (by rw [hr, h3]; simp [List.append_assoc]) rfl (by decide) (by decide),
    DP.run_laid (p := bitsOf 0 1) (v := 0) (n := 2) (q := bitsOf 0 5 ++ (bitsOf k 16 ++ (bitsOf (65535 - k) 16 ++ (unpack ys ++ unpack b)))) (by rw [hr, h3]; simp [List.append_assoc]) rfl (by decide) (by decide), DP.run_bind]
  have hst : (pBlock 0).run row lim' ⟨0 + 1 + 2, []⟩ = .ok ((), ⟨8 + 32 + 8 * ys.length, ys⟩) := by
    have := pStored_laid (row := row) (lim := lim') (ys := ys) (p := bitsOf 0 8) (q := unpack b) (s := ⟨3, []⟩) (by rw [hr, hk]) (by simp [bitsOf_length]) (by omega) hy (by show 0 + ys.length ≤ lim'; omega)
    rw [bitsOf_length] at this
    exact this
  simp only
  rw [hst]
  simp only [if_true]
  obtain ⟨pre, hpre⟩ : ∃ pre, pre = bitsOf 0 8 ++ (bitsOf k 16 ++ (bitsOf (65535 - k) 16 ++ unpack ys)) := ⟨_, rfl⟩
  have hpl : pre.length = 8 * (ys.length + 5) := by rw [hpre]; simp [bitsOf_length, unpack_length]; omega
  have hr2 : row = pre ++ unpack b := by rw [hr, hpre]; simp [List.append_assoc]
  have hsh := DP.run_shift (row := unpack b) (pre := pre) (po := ys) (lim := lim) (lim' := lim') (by rw [hpl]; omega) hl _ _ h
  rw [← hr2, hpl] at hsh
  simp only [Nat.add_zero, List.append_nil] at hsh
  rw [show 8 + 32 + 8 * ys.length = 8 * (ys.length + 5) by omega, ← hsh]
  exact pInf_fuel _ _ _ (by show ys.length ≤ lim'; omega) (by rw [hlen]; show _ < 8000000 + 8 * (ys.length + 5); omega) (by rw [hlen]; show _ < FI + 8 * (ys.length + 5); unfold FI; omega)
end Go.Proofs.Yteinenklppbjkaa
