/- Layer 11: what Encode and Decode are to each other, plainly. -/
import Derived.Test.YtaioclggifdnhaaRh
set_option linter.unusedVariables false
set_option linter.unusedSimpArgs false
open Go.RowKit
namespace Go.Proofs.Ytaioclggifdnhaa
set_option maxRecDepth 10000

theorem iteI {α : Type} {p q : Prop} [Decidable p] [Decidable q] (h : p ↔ q) {a a' b : α} (ha : a = a') : (if p then a else b) = if q then a' else b := by
  subst ha; by_cases hp : p
  · rw [if_pos hp, if_pos (h.1 hp)]
  · rw [if_neg hp, if_neg (fun hq => hp (h.2 hq))]
theorem rep_app (k : Nat) (x : Int) (l : List Int) : List.replicate k x ++ x :: l = List.replicate (k + 1) x ++ l := by
  rw [List.replicate_succ', List.append_assoc]; rfl
/-- What is encoded is decoded. -/
theorem decG_enc {N : Nat} {rest : List Int} : ∀ (l : List Int) (k : Nat) (x : Int) (out : List Int), k < 256 → (∀ y ∈ x :: l, 0 ≤ y ∧ y < 16777216) →
    decG N (encG k (x :: l) ++ rest) out = if out.length + (k + (x :: l).length) ≤ N then decG N rest (out ++ (List.replicate k x ++ x :: l)) else none
  | l, k, x, out, hk, hb => by
    have hx := hb x (by simp)
    have step : decG N (e4 k x ++ encG 0 l ++ rest) out = if out.length + (k + 1) ≤ N then decG N (encG 0 l ++ rest) (out ++ List.replicate (k + 1) x) else none := by
      show decG N ((k : Int) :: x / 65536 :: x / 256 % 256 :: x % 256 :: (encG 0 l ++ rest)) out = _
      simp only [decG]
      rw [show x / 65536 * 65536 + x / 256 % 256 * 256 + x % 256 = x by omega]
      rfl
    rw [encG]
    split
    · rename_i hc
      match l, hc, hb with
      | [], hc, _ => simp at hc
      | y :: l', hc, hb =>
        obtain rfl : y = x := by simpa using hc.1
        rw [decG_enc l' (k + 1) y out hc.2 (fun z hz => hb z (by simp [hz]))]
        exact iteI (by simp only [List.length_cons]; omega) (by rw [rep_app k y (y :: l')])
    · match l, hb, step with
      | [], hb, step =>
        rw [step]
        simp only [encG, List.nil_append, List.length_cons, List.length_nil]
        rw [rep_app]; simp
      | y :: l', hb, step =>
        rw [step]
        split
        · rw [decG_enc l' 0 y _ (by decide) (fun z hz => hb z (by simp [hz]))]
          exact iteI (by simp only [List.length_cons, List.length_append, List.length_replicate]; omega) (by rw [rep_app k x (y :: l')]; simp)
        · rw [if_neg (by simp only [List.length_cons]; omega)]
theorem decG_enc0 {N : Nat} {rest : List Int} (l out : List Int) (hb : ∀ y ∈ l, 0 ≤ y ∧ y < 16777216) (hN : out.length ≤ N) :
    decG N (encG 0 l ++ rest) out = if out.length + l.length ≤ N then decG N rest (out ++ l) else none := by
  match l, hb with
  | [], _ => simp [encG, hN]
  | x :: l, hb =>
    rw [decG_enc l 0 x out (by decide) hb]
    simp
theorem decG_encF (xs : List Int) (N : Nat) : decG N (encF xs) [] = if xs.length = N then some (cutL xs) else none := by
  have h := decG_enc0 (N := N) (rest := []) (cutL xs) [] cutL_bound (Nat.zero_le _)
  rw [List.append_nil] at h
  show decG N (encG 0 (cutL xs)) [] = _
  rw [h, cutL_length]
  simp only [List.length_nil, Nat.zero_add, List.nil_append, decG, cutL_length]
  split
  · rfl
  · rw [if_neg (by omega)]
theorem decF_encF (xs : List Int) (n : Int) (hx : xs.length ≤ 65536) : decF (encF xs) n = if n = xs.length then (cutL xs, 0) else ([], if n < 0 ∨ n > 65536 then 1 else 131) := by
  unfold decF
  by_cases h : n < 0 ∨ n > 65536
  · rw [if_pos h, if_pos h, if_neg (by omega)]
  · rw [if_neg h, if_neg h, decG_encF]
    by_cases h2 : n = xs.length
    · rw [if_pos h2, if_pos (by omega)]
    · rw [if_neg h2, if_neg (by omega)]

/-! No two runs could be one. -/
def apart4 : List Int → Prop
  | a :: b :: c :: d :: (e :: f :: g :: h :: l) => ¬ (a < 255 ∧ [b, c, d] = [f, g, h]) ∧ apart4 (e :: f :: g :: h :: l)
  | _ => True
theorem encG_head : ∀ (l : List Int) (k : Nat) (x : Int), ∃ k' r, encG k (x :: l) = e4 k' x ++ r
  | l, k, x => by
    rw [encG]
    split
    · rename_i hc
      match l, hc with
      | [], hc => simp at hc
      | y :: l', hc =>
        obtain rfl : y = x := by simpa using hc.1
        exact encG_head l' (k + 1) y
    · exact ⟨k, _, rfl⟩
theorem encG_apart : ∀ (l : List Int) (k : Nat), (∀ y ∈ l, 0 ≤ y ∧ y < 16777216) → apart4 (encG k l)
  | [], k, _ => by simp [encG, apart4]
  | x :: l, k, hb => by
    rw [encG]
    split
    · exact encG_apart l (k + 1) (fun z hz => hb z (by simp [hz]))
    · rename_i hc
      match l, hb, hc with
      | [], _, _ => simp [encG, e4, apart4]
      | y :: l', hb, hc =>
        have ih := encG_apart (y :: l') 0 (fun z hz => hb z (by simp [hz]))
        obtain ⟨k', r, hr⟩ := encG_head l' 0 y
        rw [hr] at ih ⊢
        refine ⟨fun hh => hc ⟨?_, by omega⟩, ih⟩
        obtain ⟨_, he⟩ := hh
        simp only [List.cons.injEq, and_true] at he
        have h1 := hb x (by simp)
        have h2 := hb y (by simp)
        have : y = x := by omega
        simp [this]
theorem apart4_get : ∀ (b : List Int) (i : Nat), apart4 b → i % 4 = 0 → 4 ≤ i → i + 4 ≤ b.length → ¬ (b.getD (i - 4) 0 < 255 ∧ (b.drop (i - 3)).take 3 = (b.drop (i + 1)).take 3)
  | a :: b :: c :: d :: (e :: f :: g :: h :: l), i, hp, hi, h4, hl => by
    by_cases h0 : i = 4
    · subst h0
      exact hp.1
    · obtain ⟨j, rfl⟩ : ∃ j, i = j + 4 := ⟨i - 4, by omega⟩
      have := apart4_get (e :: f :: g :: h :: l) j hp.2 (by omega) (by omega) (by simp at hl ⊢; omega)
      rw [show j + 4 - 4 = (j - 4) + 1 + 1 + 1 + 1 by omega, show j + 4 - 3 = (j - 3) + 1 + 1 + 1 + 1 by omega, show j + 4 + 1 = (j + 1) + 1 + 1 + 1 + 1 by omega]
      simpa only [List.drop_succ_cons, List.getD_cons_succ] using this
  | [], i, _, _, h4, hl => by simp at hl
  | [_], i, _, _, h4, hl => by simp at hl <;> omega
  | [_, _], i, _, _, h4, hl => by simp at hl <;> omega
  | [_, _, _], i, _, _, h4, hl => by simp at hl <;> omega
  | [_, _, _, _], i, _, _, h4, hl => by simp at hl; omega
  | [_, _, _, _, _], i, _, _, h4, hl => by simp at hl; omega
  | [_, _, _, _, _, _], i, _, _, h4, hl => by simp at hl; omega
  | [_, _, _, _, _, _, _], i, _, _, h4, hl => by simp at hl; omega
theorem encG_mod : ∀ (l : List Int) (k : Nat), (encG k l).length % 4 = 0
  | [], _ => rfl
  | x :: l, k => by
    rw [encG]
    split
    · exact encG_mod l (k + 1)
    · rw [List.length_append]
      have := encG_mod l 0
      show (4 + _) % 4 = 0
      omega

/-! No bytes tell pixels in fewer runs. -/
theorem encG_near : ∀ (l : List Int), (∀ p q, p < 256 → q < 256 → (encG p l).length ≤ (encG q l).length + 4) ∧ (∀ p q, p ≤ q → q < 256 → (encG p l).length ≤ (encG q l).length)
  | [] => ⟨fun _ _ _ _ => by simp [encG], fun _ _ _ _ => by simp [encG]⟩
  | x :: l => by
    obtain ⟨C, D⟩ := encG_near l
    have he : ∀ n, (e4 n x).length = 4 := fun _ => rfl
    constructor
    · intro p q hp hq
      simp only [encG]
      split <;> split <;> rename_i h1 h2
      · exact C _ _ h1.2 h2.2
      · have := C (p + 1) 0 h1.2 (by decide)
        rw [List.length_append, he]; omega
      · have := D 0 (q + 1) (by omega) h2.2
        rw [List.length_append, he]; omega
      · simp [he]
    · intro p q hpq hq
      simp only [encG]
      split <;> split <;> rename_i h1 h2
      · exact D _ _ (by omega) h2.2
      · have := C (p + 1) 0 h1.2 (by decide)
        rw [List.length_append, he]; omega
      · exact absurd ⟨h2.1, by omega⟩ h1
      · simp [he]
theorem encG_rep : ∀ (j k : Nat) (x : Int) (l : List Int), k + j < 256 → encG k (List.replicate j x ++ x :: l) = encG (k + j) (x :: l)
  | 0, k, x, l, _ => rfl
  | j + 1, k, x, l, h => by
    rw [show List.replicate (j + 1) x ++ x :: l = x :: (List.replicate j x ++ x :: l) by rw [List.replicate_succ]; rfl, encG, if_pos ⟨by cases j <;> simp [List.replicate_succ], by omega⟩, encG_rep j (k + 1) x l (by omega), show k + 1 + j = k + (j + 1) by omega]
theorem encG_run {j : Nat} {x : Int} {l : List Int} (hj : j < 256) : (encG 0 (List.replicate (j + 1) x ++ l)).length ≤ 4 + (encG 0 l).length := by
  rw [← rep_app, encG_rep j 0 x l (by omega), encG]
  split
  · rename_i hc
    have := (encG_near l).1 (0 + j + 1) 0 hc.2 (by decide)
    omega
  · rw [List.length_append]; exact Nat.le_refl _
theorem decG_least {N : Nat} : ∀ (b out l : List Int), (∀ x ∈ b, 0 ≤ x ∧ x < 256) → decG N b out = some l → ∃ l', l = out ++ l' ∧ (encG 0 l').length ≤ b.length ∧ ∀ y ∈ l', 0 ≤ y ∧ y < 16777216
  | [], out, l, _, h => by
    simp only [decG] at h
    split at h
    · cases h; exact ⟨[], by simp, by simp [encG], by simp⟩
    · cases h
  | [_], _, _, _, h => by cases h
  | [_, _], _, _, _, h => by cases h
  | [_, _, _], _, _, _, h => by cases h
  | k :: x :: y :: z :: b, out, l, hb, h => by
    simp only [decG] at h
    split at h
    · obtain ⟨l', e, h1, h2⟩ := decG_least b _ l (fun z hz => hb z (by simp [hz])) h
      have b0 := hb k (by simp)
      have b1 := hb x (by simp)
      have b2 := hb y (by simp)
      have b3 := hb z (by simp)
      refine ⟨List.replicate (k.toNat + 1) (x * 65536 + y * 256 + z) ++ l', by rw [e, List.append_assoc], ?_, ?_⟩
      · have := encG_run (j := k.toNat) (x := x * 65536 + y * 256 + z) (l := l') (by omega)
        simp only [List.length_cons]; omega
      · intro w hw
        rcases List.mem_append.1 hw with hw | hw
        · rw [List.eq_of_mem_replicate hw]; omega
        · exact h2 w hw
    · cases h
theorem cutL_id {l : List Int} (h : ∀ y ∈ l, 0 ≤ y ∧ y < 16777216) : cutL l = l := by
  unfold cutL
  conv => rhs; rw [← List.map_id l]
  exact List.map_congr_left fun y hy => by have := h y hy; show y % 16777216 = y; omega
theorem decF_least {b l : List Int} {n : Int} (hb : ∀ x ∈ b, 0 ≤ x ∧ x < 256) (h : decF b n = (l, 0)) : n = l.length ∧ l.length ≤ 65536 ∧ cutL l = l ∧ (encF l).length ≤ b.length ∧ ∀ y ∈ l, 0 ≤ y ∧ y < 16777216 := by
  unfold decF at h
  split at h
  · cases h
  · split at h
    · rename_i hA l' hl'
      cases h
      have h1 := decG_length _ _ _ hl'
      obtain ⟨l2, e, h2, h3⟩ := decG_least b [] l hb hl'
      simp only [List.nil_append] at e
      subst e
      refine ⟨by omega, by omega, cutL_id h3, ?_, h3⟩
      show (encG 0 (cutL l)).length ≤ _
      rw [cutL_id h3]; exact h2
    · cases h
theorem decF_err {b l : List Int} {n e : Int} (he : e ≠ 0) (h : decF b n = (l, e)) : l = [] := by
  unfold decF at h
  split at h
  · cases h; rfl
  · split at h
    · cases h; exact absurd rfl he
    · cases h; rfl
theorem joins (a b : List Int) (h : a.length + b.length ≤ 65536) : decF (encF a ++ encF b) ((a ++ b).length : Nat) = (cutL (a ++ b), 0) := by
  have e : decG (a ++ b).length (encF a ++ encF b) [] = some (cutL (a ++ b)) := by
    show decG _ (encG 0 (cutL a) ++ encF b) [] = _
    rw [decG_enc0 (cutL a) [] cutL_bound (Nat.zero_le _), cutL_length, if_pos (by simp)]
    have h2 := decG_enc0 (N := (a ++ b).length) (rest := []) (cutL b) ([] ++ cutL a) cutL_bound (by simp [cutL_length])
    rw [List.append_nil] at h2
    show decG _ (encG 0 (cutL b)) _ = _
    rw [h2, if_pos (by simp [cutL_length])]
    simp only [decG]
    rw [if_pos (by simp [cutL_length])]
    simp [cutL]
  unfold decF
  rw [if_neg (by simp; omega), Int.toNat_natCast, e]
theorem joins_least (a b : List Int) (h : a.length + b.length ≤ 65536) : (encF (a ++ b)).length ≤ (encF a ++ encF b).length := by
  have h1 := decF_least (b := encF a ++ encF b) (fun x hx => by rcases List.mem_append.1 hx with h | h <;> exact encF_bound _ x h) (joins a b h)
  have e : encF (cutL (a ++ b)) = encF (a ++ b) := by
    show encG 0 (cutL (cutL (a ++ b))) = encG 0 (cutL (a ++ b))
    rw [h1.2.2.1]
  rw [← e]; exact h1.2.2.2.1
end Go.Proofs.Ytaioclggifdnhaa
