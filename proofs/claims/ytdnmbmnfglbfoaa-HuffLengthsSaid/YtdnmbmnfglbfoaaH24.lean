/- Layer 6: used; the reference's rise. -/
import Derived.Test.YtdnmbmnfglbfoaaH22

import Derived.Test.YtdnmbmnfglbfoaaLH0

set_option linter.unusedVariables false

set_option linter.unusedSimpArgs false

open Go.RowKit

namespace Go.Proofs.Ytdnmbmnfglbfoaa

set_option maxRecDepth 10000

/-- Whether frequencies may be. -/
def okF (fr : List Int) (i : Nat) : Bool := decide (fr.length ≤ 320) && !(fr.take i).any badI
theorem okF_succ {fr : List Int} {i : Nat} (h : i < fr.length) : okF fr (i + 1) = (okF fr i && !badI (fr.getD i 0)) := by
  unfold okF
  rw [List.take_succ_eq_append_getElem h, List.any_append, List.getD_eq_getElem?_getD, List.getElem?_eq_getElem h]
  simp only [List.any_cons, List.any_nil, Bool.or_false, Bool.not_or, Bool.and_assoc, Option.getD_some]
/-- Bools in one form. -/
def bL : List AV → List AV → Prop
  | [], [] => True
  | v :: l, v' :: l' => (v = v' ∨ ∃ b, v.asB = some b ∧ v' = .bo b) ∧ bL l l'
  | _, _ => False
theorem bL_c {ρ : Env} : ∀ l l' : List AV, bL l l' → AV.okl ρ l → AV.cl ρ l' = AV.cl ρ l ∧ AV.okl ρ l'
  | [], [], _, _ => ⟨rfl, trivial⟩
  | [], _ :: _, h, _ => h.elim
  | _ :: _, [], h, _ => h.elim
  | v :: l, v' :: l', h, hok => by
    obtain ⟨a, b⟩ := bL_c l l' h.2 hok.2
    rcases h.1 with rfl | ⟨x, hx, rfl⟩
    · exact ⟨by simp only [AV.cl, a], hok.1, b⟩
    · refine ⟨?_, trivial, b⟩
      simp only [AV.cl, a, AV.asB_c ρ hx]
      rfl
theorem Vw.bl {M : AH} {l l' : List AV} (h : bL l l') : Vw M M l l' := by
  intro ρ w hs hok
  obtain ⟨a, b⟩ := bL_c l l' h hok
  exact ⟨ρ, hs, Ext.refl _ _ _, a, b⟩
section

variable {fr : List Int} {c c0 : Nat} {K Kp : AV → AH → Prop}

theorem used_call (hl : fr.length ≤ 2000) (hK : K (.tup [.int .i64 (nF fr : Int), .bo (okF fr fr.length)]) [.one false 0 (.ints .i64 fr c)]) :
    CallA Try.prog 12 [.sl 0 0 0 fr.length c0] [.one false 0 (.ints .i64 fr c)] K Kp := by
  refine step12 (fun _ => [0]) [] rfl ?_
  repeat ((conv => whnf); first | with_reducible refine O_step ?_ | with_reducible refine S_step ?_ | with_reducible refine D_step ?_ | with_reducible refine RO.exit ?_ | with_reducible refine RO.ret ?_ | ((with_reducible refine And.intro ?sc ?_); case sc => exact side) | ((with_reducible refine br_f ?sc ?_); case sc => exact sideB) | ((with_reducible refine br_t ?sc ?_); case sc => exact sideB))
  refine WO.go (σ := Nat) (fun i => i ≤ fr.length) (fun i => fr.length - i)
    (fun i => [(0, .sl 0 0 0 fr.length c0), (4, .int .i64 (((upto fr i).length : Nat) : Int)), (5, .bo (okF fr i)), (6, .int .i64 (i : Int))])
    (fun _ => [.one false 0 (.ints .i64 fr c)]) 0 tb_ok mixed (by kernel_rfl) (Nat.zero_le _) (And.intro rfl (And.intro rfl (And.intro ?_ (And.intro rfl trivial)))) (And.intro rfl (trivial)) (fun _ => rfl) (fun _ => rfl) (fun _ => ⟨trivial, trivial⟩) ?_
  · show AV.bo _ = AV.bo _
    congr 1
    unfold okF
    simp only [List.take_zero, List.any_nil, Bool.not_false, Bool.and_true, decide_eq_decide]
    omega
  intro i i1 d
  have i1 : i ≤ fr.length := i1
  repeat ((conv => whnf); first | with_reducible refine O_step ?_ | with_reducible refine S_step ?_ | with_reducible refine D_step ?_ | with_reducible refine RO.exit ?_ | with_reducible refine RO.ret ?_ | ((with_reducible refine And.intro ?sc ?_); case sc => exact side) | ((with_reducible refine br_f ?sc ?_); case sc => exact sideB) | ((with_reducible refine br_t ?sc ?_); case sc => exact sideB))
  refine And.intro (fun hi => ?_) (fun hi => ?_)
  · have hil : i < fr.length := by simp only [decide_eq_true_eq] at hi; omega
    have hok := okF_succ hil
    have hup := upto_succ fr i
    have hul := upto_len fr i
    repeat ((conv => whnf); first | with_reducible refine O_step ?_ | with_reducible refine S_step ?_ | with_reducible refine D_step ?_ | with_reducible refine RO.exit ?_ | with_reducible refine RO.ret ?_ | ((with_reducible refine And.intro ?sc ?_); case sc => exact side) | ((with_reducible refine br_f ?sc ?_); case sc => exact sideB) | ((with_reducible refine br_t ?sc ?_); case sc => exact sideB))
    refine And.intro (fun o1 => ?_) (fun o1 => ?_)
    · rw [o1, Bool.true_and] at hok
      repeat ((conv => whnf); first | with_reducible refine O_step ?_ | with_reducible refine S_step ?_ | with_reducible refine D_step ?_ | with_reducible refine RO.exit ?_ | with_reducible refine RO.ret ?_ | ((with_reducible refine And.intro ?sc ?_); case sc => exact side) | ((with_reducible refine br_f ?sc ?_); case sc => exact sideB) | ((with_reducible refine br_t ?sc ?_); case sc => exact sideB))
      refine And.intro (fun o2 => ?_) (fun o2 => ?_)
      · have o2' : 0 ≤ fr.getD i 0 := by simpa using o2
        have hok' : okF fr (i + 1) = decide (fr.getD i 0 ≤ 1099511627776) := by
          rw [hok]; unfold badI; rw [decide_eq_false (by omega), Bool.false_or, ← decide_not, decide_eq_decide]; omega
        repeat ((conv => whnf); first | with_reducible refine O_step ?_ | with_reducible refine S_step ?_ | with_reducible refine D_step ?_ | with_reducible refine RO.exit ?_ | with_reducible refine RO.ret ?_ | ((with_reducible refine And.intro ?sc ?_); case sc => exact side) | ((with_reducible refine br_f ?sc ?_); case sc => exact sideB) | ((with_reducible refine br_t ?sc ?_); case sc => exact sideB))
        refine And.intro (fun p1 => ?_) (fun p1 => ?_)
        · have p1' : 0 < fr.getD i 0 := by simpa using p1
          rw [if_pos p1'] at hup
          repeat ((conv => whnf); first | with_reducible refine O_step ?_ | with_reducible refine S_step ?_ | with_reducible refine D_step ?_ | with_reducible refine RO.exit ?_ | with_reducible refine RO.ret ?_ | ((with_reducible refine And.intro ?sc ?_); case sc => exact side) | ((with_reducible refine br_f ?sc ?_); case sc => exact sideB) | ((with_reducible refine br_t ?sc ?_); case sc => exact sideB))
          refine RO.mk (i + 1) [(0, .sl 0 0 0 fr.length c0), (4, .int .i64 (((upto fr i).length : Int) + 1)), (5, .bo (decide (fr.getD i 0 ≤ 1099511627776))), (6, .int .i64 ((i : Int) + 1))] _ (by show i + 1 ≤ _; omega) (show fr.length - (i + 1) < fr.length - i by omega) (And.intro rfl (And.intro rfl (And.intro rfl (And.intro rfl (trivial))))) rfl (Vw.bl (And.intro (.inl rfl) (And.intro (.inl ?_) (And.intro (.inr ⟨_, rfl, ?_⟩) (And.intro (.inl rfl) trivial))))) (And.intro rfl (trivial))
          · show AV.int .i64 (((upto fr i).length : Int) + 1) = AV.int .i64 (((upto fr (i + 1)).length : Nat) : Int)
            rw [hup, List.length_append]; rfl
          · rw [hok']
        · have p1' : ¬ 0 < fr.getD i 0 := by simpa using p1
          rw [if_neg p1'] at hup
          repeat ((conv => whnf); first | with_reducible refine O_step ?_ | with_reducible refine S_step ?_ | with_reducible refine D_step ?_ | with_reducible refine RO.exit ?_ | with_reducible refine RO.ret ?_ | ((with_reducible refine And.intro ?sc ?_); case sc => exact side) | ((with_reducible refine br_f ?sc ?_); case sc => exact sideB) | ((with_reducible refine br_t ?sc ?_); case sc => exact sideB))
          refine RO.mk (i + 1) [(0, .sl 0 0 0 fr.length c0), (4, .int .i64 (((upto fr i).length : Int))), (5, .bo (decide (fr.getD i 0 ≤ 1099511627776))), (6, .int .i64 ((i : Int) + 1))] _ (by show i + 1 ≤ _; omega) (show fr.length - (i + 1) < fr.length - i by omega) (And.intro rfl (And.intro rfl (And.intro rfl (And.intro rfl (trivial))))) rfl (Vw.bl (And.intro (.inl rfl) (And.intro (.inl ?_) (And.intro (.inr ⟨_, rfl, ?_⟩) (And.intro (.inl rfl) trivial))))) (And.intro rfl (trivial))
          · show AV.int .i64 ((upto fr i).length : Int) = AV.int .i64 (((upto fr (i + 1)).length : Nat) : Int)
            rw [hup]
          · rw [hok']
      · have o2' : ¬ 0 ≤ fr.getD i 0 := by simpa using o2
        have hok' : okF fr (i + 1) = false := by rw [hok]; unfold badI; rw [decide_eq_true (by omega)]; rfl
        repeat ((conv => whnf); first | with_reducible refine O_step ?_ | with_reducible refine S_step ?_ | with_reducible refine D_step ?_ | with_reducible refine RO.exit ?_ | with_reducible refine RO.ret ?_ | ((with_reducible refine And.intro ?sc ?_); case sc => exact side) | ((with_reducible refine br_f ?sc ?_); case sc => exact sideB) | ((with_reducible refine br_t ?sc ?_); case sc => exact sideB))
        refine And.intro (fun p1 => ?_) (fun p1 => ?_)
        · have p1' : 0 < fr.getD i 0 := by simpa using p1
          rw [if_pos p1'] at hup
          repeat ((conv => whnf); first | with_reducible refine O_step ?_ | with_reducible refine S_step ?_ | with_reducible refine D_step ?_ | with_reducible refine RO.exit ?_ | with_reducible refine RO.ret ?_ | ((with_reducible refine And.intro ?sc ?_); case sc => exact side) | ((with_reducible refine br_f ?sc ?_); case sc => exact sideB) | ((with_reducible refine br_t ?sc ?_); case sc => exact sideB))
          refine RO.mk (i + 1) [(0, .sl 0 0 0 fr.length c0), (4, .int .i64 (((upto fr i).length : Int) + 1)), (5, .ff), (6, .int .i64 ((i : Int) + 1))] _ (by show i + 1 ≤ _; omega) (show fr.length - (i + 1) < fr.length - i by omega) (And.intro rfl (And.intro rfl (And.intro rfl (And.intro rfl (trivial))))) rfl (Vw.bl (And.intro (.inl rfl) (And.intro (.inl ?_) (And.intro (.inr ⟨_, rfl, ?_⟩) (And.intro (.inl rfl) trivial))))) (And.intro rfl (trivial))
          · show AV.int .i64 (((upto fr i).length : Int) + 1) = AV.int .i64 (((upto fr (i + 1)).length : Nat) : Int)
            rw [hup, List.length_append]; rfl
          · rw [hok']
        · have p1' : ¬ 0 < fr.getD i 0 := by simpa using p1
          rw [if_neg p1'] at hup
          repeat ((conv => whnf); first | with_reducible refine O_step ?_ | with_reducible refine S_step ?_ | with_reducible refine D_step ?_ | with_reducible refine RO.exit ?_ | with_reducible refine RO.ret ?_ | ((with_reducible refine And.intro ?sc ?_); case sc => exact side) | ((with_reducible refine br_f ?sc ?_); case sc => exact sideB) | ((with_reducible refine br_t ?sc ?_); case sc => exact sideB))
          refine RO.mk (i + 1) [(0, .sl 0 0 0 fr.length c0), (4, .int .i64 (((upto fr i).length : Int))), (5, .ff), (6, .int .i64 ((i : Int) + 1))] _ (by show i + 1 ≤ _; omega) (show fr.length - (i + 1) < fr.length - i by omega) (And.intro rfl (And.intro rfl (And.intro rfl (And.intro rfl (trivial))))) rfl (Vw.bl (And.intro (.inl rfl) (And.intro (.inl ?_) (And.intro (.inr ⟨_, rfl, ?_⟩) (And.intro (.inl rfl) trivial))))) (And.intro rfl (trivial))
          · show AV.int .i64 ((upto fr i).length : Int) = AV.int .i64 (((upto fr (i + 1)).length : Nat) : Int)
            rw [hup]
          · rw [hok']
    · rw [o1, Bool.false_and] at hok
      have hok' := hok
      repeat ((conv => whnf); first | with_reducible refine O_step ?_ | with_reducible refine S_step ?_ | with_reducible refine D_step ?_ | with_reducible refine RO.exit ?_ | with_reducible refine RO.ret ?_ | ((with_reducible refine And.intro ?sc ?_); case sc => exact side) | ((with_reducible refine br_f ?sc ?_); case sc => exact sideB) | ((with_reducible refine br_t ?sc ?_); case sc => exact sideB))
      refine And.intro (fun p1 => ?_) (fun p1 => ?_)
      · have p1' : 0 < fr.getD i 0 := by simpa using p1
        rw [if_pos p1'] at hup
        repeat ((conv => whnf); first | with_reducible refine O_step ?_ | with_reducible refine S_step ?_ | with_reducible refine D_step ?_ | with_reducible refine RO.exit ?_ | with_reducible refine RO.ret ?_ | ((with_reducible refine And.intro ?sc ?_); case sc => exact side) | ((with_reducible refine br_f ?sc ?_); case sc => exact sideB) | ((with_reducible refine br_t ?sc ?_); case sc => exact sideB))
        refine RO.mk (i + 1) [(0, .sl 0 0 0 fr.length c0), (4, .int .i64 (((upto fr i).length : Int) + 1)), (5, .ff), (6, .int .i64 ((i : Int) + 1))] _ (by show i + 1 ≤ _; omega) (show fr.length - (i + 1) < fr.length - i by omega) (And.intro rfl (And.intro rfl (And.intro rfl (And.intro rfl (trivial))))) rfl (Vw.bl (And.intro (.inl rfl) (And.intro (.inl ?_) (And.intro (.inr ⟨_, rfl, ?_⟩) (And.intro (.inl rfl) trivial))))) (And.intro rfl (trivial))
        · show AV.int .i64 (((upto fr i).length : Int) + 1) = AV.int .i64 (((upto fr (i + 1)).length : Nat) : Int)
          rw [hup, List.length_append]; rfl
        · rw [hok']
      · have p1' : ¬ 0 < fr.getD i 0 := by simpa using p1
        rw [if_neg p1'] at hup
        repeat ((conv => whnf); first | with_reducible refine O_step ?_ | with_reducible refine S_step ?_ | with_reducible refine D_step ?_ | with_reducible refine RO.exit ?_ | with_reducible refine RO.ret ?_ | ((with_reducible refine And.intro ?sc ?_); case sc => exact side) | ((with_reducible refine br_f ?sc ?_); case sc => exact sideB) | ((with_reducible refine br_t ?sc ?_); case sc => exact sideB))
        refine RO.mk (i + 1) [(0, .sl 0 0 0 fr.length c0), (4, .int .i64 (((upto fr i).length : Int))), (5, .ff), (6, .int .i64 ((i : Int) + 1))] _ (by show i + 1 ≤ _; omega) (show fr.length - (i + 1) < fr.length - i by omega) (And.intro rfl (And.intro rfl (And.intro rfl (And.intro rfl (trivial))))) rfl (Vw.bl (And.intro (.inl rfl) (And.intro (.inl ?_) (And.intro (.inr ⟨_, rfl, ?_⟩) (And.intro (.inl rfl) trivial))))) (And.intro rfl (trivial))
        · show AV.int .i64 ((upto fr i).length : Int) = AV.int .i64 (((upto fr (i + 1)).length : Nat) : Int)
          rw [hup]
        · rw [hok']
  · have hil : i = fr.length := by simp only [decide_eq_false_iff_not] at hi; omega
    subst hil
    repeat ((conv => whnf); first | with_reducible refine O_step ?_ | with_reducible refine S_step ?_ | with_reducible refine D_step ?_ | with_reducible refine RO.exit ?_ | with_reducible refine RO.ret ?_ | ((with_reducible refine And.intro ?sc ?_); case sc => exact side) | ((with_reducible refine br_f ?sc ?_); case sc => exact sideB) | ((with_reducible refine br_t ?sc ?_); case sc => exact sideB))
    exact hK
end

theorem drop_ge {o : List Int} (h : o.Pairwise (· ≤ ·)) {k : Nat} (hk : k < o.length) {x : Int} (hx : x ≤ o.getD k 0) : ∀ y ∈ o.drop k, x ≤ y := by
  intro y hy
  rw [List.getD_eq_getElem?_getD, List.getElem?_eq_getElem hk] at hx
  rw [List.drop_eq_getElem_cons hk] at hy
  rcases List.mem_cons.1 hy with rfl | hy
  · exact hx
  · have h2 := h.sublist (List.drop_sublist k o)
    rw [List.drop_eq_getElem_cons hk] at h2
    exact Int.le_trans hx ((List.pairwise_cons.1 h2).1 y hy)
theorem ins_perm (o : List Int) (k : Nat) (x : Int) : (o.take k ++ [x] ++ o.drop k).Perm (o ++ [x]) := by
  have h1 : (o.take k ++ [x] ++ o.drop k).Perm (o.take k ++ o.drop k ++ [x]) := by
    rw [List.append_assoc, List.append_assoc]
    exact List.Perm.append_left _ List.perm_append_comm
  rwa [List.take_append_drop] at h1
theorem ins_sorted {o : List Int} (h : o.Pairwise (· ≤ ·)) {k : Nat} {x : Int} (hk : k ≤ o.length) (h1 : ∀ j, j < k → o.getD j 0 ≤ x) (h2 : ∀ y ∈ o.drop k, x ≤ y) : (o.take k ++ [x] ++ o.drop k).Pairwise (· ≤ ·) := by
  have ht : ∀ y ∈ o.take k, y ≤ x := by
    intro y hy
    obtain ⟨j, hj, rfl⟩ := List.getElem_of_mem hy
    rw [List.length_take] at hj
    have := h1 j (by omega)
    rw [List.getElem_take]
    rwa [List.getD_eq_getElem?_getD, List.getElem?_eq_getElem (by omega)] at this
  rw [List.pairwise_append, List.pairwise_append]
  refine ⟨⟨h.sublist (List.take_sublist _ _), List.pairwise_singleton _ _, fun a ha b hb => ?_⟩, h.sublist (List.drop_sublist _ _), fun a ha b hb => ?_⟩
  · obtain rfl := List.mem_singleton.1 hb; exact ht a ha
  · rcases List.mem_append.1 ha with ha | ha
    · exact Int.le_trans (ht a ha) (h2 b hb)
    · obtain rfl := List.mem_singleton.1 ha; exact h2 b hb
section

variable {l : List Int} {c c0 : Nat} {Kp : AV → AH → Prop}

theorem rise_call (hl : l.length ≤ 100000) : CallA Try.prog 33 [.sl 0 0 0 l.length c0] [.one false 0 (.ints .i64 l c)]
    (fun r M => ∃ o g c', r = .sl 1 g 0 o.length c' ∧ M = [.one false 0 (.ints .i64 l c), .one true g (.ints .i64 o c')] ∧ o.length ≤ c' ∧ o.Perm l ∧ o.Pairwise (· ≤ ·)) Kp := by
  refine CallA.post_sub ?_
  refine step33 (fun _ => [0, 1]) [] rfl ?_
  repeat ((conv => whnf); first | with_reducible refine O_step ?_ | with_reducible refine S_step ?_ | with_reducible refine D_step ?_ | with_reducible refine RO.exit ?_ | with_reducible refine RO.ret ?_ | ((with_reducible refine And.intro ?sc ?_); case sc => exact side) | ((with_reducible refine br_f ?sc ?_); case sc => exact sideB) | ((with_reducible refine br_t ?sc ?_); case sc => exact sideB))
  refine WO.gov (σ := Nat × List Int × Nat × Nat) (fun s => s.1 ≤ l.length ∧ s.2.1.length ≤ s.2.2.2 ∧ s.2.1.Perm (l.take s.1) ∧ s.2.1.Pairwise (· ≤ ·)) (fun s => l.length - s.1)
    (fun s => [(0, .sl 0 0 0 l.length c0), (3, .sl 1 s.2.2.1 0 s.2.1.length s.2.2.2), (4, .int .i64 (s.1 : Int))])
    (fun s => [.one false 0 (.ints .i64 l c), .one true s.2.2.1 (.ints .i64 s.2.1 s.2.2.2)]) (0, [], 0, 0) tb_ok mixed (by kernel_rfl)
    [(0, .sl 0 0 0 l.length c0), (3, .ns), (4, .int .i64 0)] _ ⟨Nat.zero_le _, Nat.zero_le _, List.Perm.refl _, List.Pairwise.nil⟩ (And.intro rfl (And.intro rfl (And.intro rfl (trivial)))) rfl
    (Vw.nils (x := .ints .i64 [] 0) ⟨rfl, rfl⟩ (And.intro (.inl rfl) (And.intro (.inr ⟨rfl, rfl⟩) (And.intro (.inl rfl) trivial)))) (And.intro rfl (And.intro rfl (trivial))) (fun _ => rfl) (fun _ => rfl) (fun _ => ⟨trivial, trivial, trivial⟩) ?_
  rintro ⟨i, o, g, c1⟩ ⟨i1, i2, i3, i4⟩ d
  simp only at i1 i2 i3 i4
  have hol : o.length = i := by have := i3.length_eq; rw [List.length_take] at this; omega
  repeat ((conv => whnf); first | with_reducible refine O_step ?_ | with_reducible refine S_step ?_ | with_reducible refine D_step ?_ | with_reducible refine RO.exit ?_ | with_reducible refine RO.ret ?_ | ((with_reducible refine And.intro ?sc ?_); case sc => exact side) | ((with_reducible refine br_f ?sc ?_); case sc => exact sideB) | ((with_reducible refine br_t ?sc ?_); case sc => exact sideB))
  refine And.intro (fun hi => ?_) (fun hi => ?_)
  · have hil : i < l.length := by simp only [decide_eq_true_eq] at hi; omega
    have hgx : l.getD ((i : Int).toNat + 0) 0 = l[i] := by simp [List.getD_eq_getElem?_getD, hil]
    repeat ((conv => whnf); first | with_reducible refine O_step ?_ | with_reducible refine S_step ?_ | with_reducible refine D_step ?_ | with_reducible refine RO.exit ?_ | with_reducible refine RO.ret ?_ | ((with_reducible refine And.intro ?sc ?_); case sc => exact side) | ((with_reducible refine br_f ?sc ?_); case sc => exact sideB) | ((with_reducible refine br_t ?sc ?_); case sc => exact sideB))
    refine WO.go (σ := Nat) (fun k => k ≤ o.length ∧ ∀ j, j < k → o.getD j 0 ≤ l[i]) (fun k => o.length - k)
      (fun k => [(0, .sl 0 0 0 l.length c0), (3, .sl 1 g 0 o.length c1), (4, .int .i64 (i : Int)), (5, .int .i64 (k : Int))])
      (fun _ => [.one false 0 (.ints .i64 l c), .one true g (.ints .i64 o c1)]) 0 tb_ok mixed (by kernel_rfl) ⟨Nat.zero_le _, fun j hj => absurd hj (Nat.not_lt_zero j)⟩ (And.intro rfl (And.intro rfl (And.intro rfl (And.intro rfl (trivial))))) (And.intro rfl (And.intro rfl (trivial))) (fun _ => rfl) (fun _ => rfl) (fun _ => ⟨trivial, trivial, trivial⟩) ?_
    rintro k ⟨k1, k2⟩ d1
    have k1 : k ≤ o.length := k1
    repeat ((conv => whnf); first | with_reducible refine O_step ?_ | with_reducible refine S_step ?_ | with_reducible refine D_step ?_ | with_reducible refine RO.exit ?_ | with_reducible refine RO.ret ?_ | ((with_reducible refine And.intro ?sc ?_); case sc => exact side) | ((with_reducible refine br_f ?sc ?_); case sc => exact sideB) | ((with_reducible refine br_t ?sc ?_); case sc => exact sideB))
    refine And.intro (fun q1 => ?_) (fun q1 => ?_)
    · have hkl : k < o.length := by simp only [decide_eq_true_eq] at q1; omega
      repeat ((conv => whnf); first | with_reducible refine O_step ?_ | with_reducible refine S_step ?_ | with_reducible refine D_step ?_ | with_reducible refine RO.exit ?_ | with_reducible refine RO.ret ?_ | ((with_reducible refine And.intro ?sc ?_); case sc => exact side) | ((with_reducible refine br_f ?sc ?_); case sc => exact sideB) | ((with_reducible refine br_t ?sc ?_); case sc => exact sideB))
      refine And.intro (fun q2 => ?_) (fun q2 => ?_)
      · have q2' : o.getD k 0 ≤ l[i] := by rw [← hgx]; simpa using q2
        repeat ((conv => whnf); first | with_reducible refine O_step ?_ | with_reducible refine S_step ?_ | with_reducible refine D_step ?_ | with_reducible refine RO.exit ?_ | with_reducible refine RO.ret ?_ | ((with_reducible refine And.intro ?sc ?_); case sc => exact side) | ((with_reducible refine br_f ?sc ?_); case sc => exact sideB) | ((with_reducible refine br_t ?sc ?_); case sc => exact sideB))
        refine RO.same (k + 1) ⟨by omega, fun j hj => by rcases (show j < k ∨ j = k by omega) with h | rfl; exact k2 j h; exact q2'⟩ (show o.length - (k + 1) < o.length - k by omega) (And.intro rfl (And.intro rfl (And.intro rfl (And.intro rfl (trivial))))) (And.intro rfl (And.intro rfl (trivial)))
      · have q2' : ¬ o.getD k 0 ≤ l[i] := by rw [← hgx]; simpa using q2
        have hgt : ∀ y ∈ o.drop k, l[i] ≤ y := drop_ge i4 hkl (by omega)
        repeat ((conv => whnf); first | with_reducible refine O_step ?_ | with_reducible refine S_step ?_ | with_reducible refine D_step ?_ | with_reducible refine RO.exit ?_ | with_reducible refine RO.ret ?_ | ((with_reducible refine And.intro ?sc ?_); case sc => exact side) | ((with_reducible refine br_f ?sc ?_); case sc => exact sideB) | ((with_reducible refine br_t ?sc ?_); case sc => exact sideB))
        intro zs hzs
        obtain rfl : zs = o.take k := by rw [hzs]; simp
        repeat ((conv => whnf); first | with_reducible refine O_step ?_ | with_reducible refine S_step ?_ | with_reducible refine D_step ?_ | with_reducible refine RO.exit ?_ | with_reducible refine RO.ret ?_ | ((with_reducible refine And.intro ?sc ?_); case sc => exact side) | ((with_reducible refine br_f ?sc ?_); case sc => exact sideB) | ((with_reducible refine br_t ?sc ?_); case sc => exact sideB))
        intro c2 hc2
        repeat ((conv => whnf); first | with_reducible refine O_step ?_ | with_reducible refine S_step ?_ | with_reducible refine D_step ?_ | with_reducible refine RO.exit ?_ | with_reducible refine RO.ret ?_ | ((with_reducible refine And.intro ?sc ?_); case sc => exact side) | ((with_reducible refine br_f ?sc ?_); case sc => exact sideB) | ((with_reducible refine br_t ?sc ?_); case sc => exact sideB))
        intro zs2 hzs2
        obtain rfl : zs2 = [l[i]] := by rw [hzs2, ← hgx]; rfl
        repeat ((conv => whnf); first | with_reducible refine O_step ?_ | with_reducible refine S_step ?_ | with_reducible refine D_step ?_ | with_reducible refine RO.exit ?_ | with_reducible refine RO.ret ?_ | ((with_reducible refine And.intro ?sc ?_); case sc => exact side) | ((with_reducible refine br_f ?sc ?_); case sc => exact sideB) | ((with_reducible refine br_t ?sc ?_); case sc => exact sideB))
        intro c3 hc3
        have hoff : offS c1 (k : Int).toNat 0 1 + (o.length - (k : Int).toNat) ≤ o.length := by
          rw [Int.toNat_natCast]
          by_cases e : c1 = k
          · unfold offS; rw [if_pos e]; omega
          · rw [offS_1 e]; omega
        repeat ((conv => whnf); first | with_reducible refine O_step ?_ | with_reducible refine S_step ?_ | with_reducible refine D_step ?_ | with_reducible refine RO.exit ?_ | with_reducible refine RO.ret ?_ | ((with_reducible refine And.intro ?sc ?_); case sc => exact side) | ((with_reducible refine br_f ?sc ?_); case sc => exact sideB) | ((with_reducible refine br_t ?sc ?_); case sc => exact sideB))
        intro zs3 hzs3
        obtain rfl : zs3 = o.drop k := by
          rw [hzs3]
          by_cases e : c1 = k
          · have : o.length ≤ k := by omega
            simp [List.drop_of_length_le this, this]
          · rw [Int.toNat_natCast, offS_1 e, Nat.zero_add]; exact List.take_of_length_le (by rw [List.length_drop]; exact Nat.le_refl _)
        repeat ((conv => whnf); first | with_reducible refine O_step ?_ | with_reducible refine S_step ?_ | with_reducible refine D_step ?_ | with_reducible refine RO.exit ?_ | with_reducible refine RO.ret ?_ | ((with_reducible refine And.intro ?sc ?_); case sc => exact side) | ((with_reducible refine br_f ?sc ?_); case sc => exact sideB) | ((with_reducible refine br_t ?sc ?_); case sc => exact sideB))
        intro c4 hc4
        have hlen : (o.take k ++ [l[i]] ++ o.drop k).length = (k : Int).toNat + 1 + (o.length - (k : Int).toNat) := by
          rw [List.length_append, List.length_append, List.length_take, List.length_drop, List.length_singleton, Int.toNat_natCast]; omega
        have hc4' : (k : Int).toNat + 1 + (o.length - (k : Int).toNat) ≤ c4 := hc4
        repeat ((conv => whnf); first | with_reducible refine O_step ?_ | with_reducible refine S_step ?_ | with_reducible refine D_step ?_ | with_reducible refine RO.exit ?_ | with_reducible refine RO.ret ?_ | ((with_reducible refine And.intro ?sc ?_); case sc => exact side) | ((with_reducible refine br_f ?sc ?_); case sc => exact sideB) | ((with_reducible refine br_t ?sc ?_); case sc => exact sideB))
        refine RO.mk (i + 1, o.take k ++ [l[i]] ++ o.drop k, g + 1, c4) [(0, .sl 0 0 0 l.length c0), (3, .sl 2 2 0 (o.take k ++ [l[i]] ++ o.drop k).length c4), (4, .int .i64 ((i : Int) + 1))] _ ⟨by omega, by show (o.take k ++ [l[i]] ++ o.drop k).length ≤ c4; rw [hlen]; exact hc4', ?_, ins_sorted i4 (by omega) k2 hgt⟩ (show l.length - (i + 1) < l.length - i by omega)
          (And.intro rfl (And.intro ?_ (And.intro rfl trivial))) rfl (Vw.move (i := 1) (k := 2) rfl rfl rfl (And.intro mvV.same (And.intro mvV.sl (And.intro (.inl rfl) trivial)))) (And.intro rfl (And.intro rfl (trivial)))
        · show (o.take k ++ [l[i]] ++ o.drop k).Perm (l.take (i + 1))
          rw [List.take_succ_eq_append_getElem hil]
          exact (ins_perm o k l[i]).trans (i3.append_right _)
        · show AV.sl 2 2 0 ((k : Int).toNat + 1 + (o.length - (k : Int).toNat)) c4 = AV.sl 2 2 0 (o.take k ++ [l[i]] ++ o.drop k).length c4
          rw [hlen]
    · have hkl : k = o.length := by simp only [decide_eq_false_iff_not] at q1; omega
      have hgt : ∀ y ∈ o.drop k, l[i] ≤ y := by intro y hy; rw [List.drop_of_length_le (by omega)] at hy; cases hy
      repeat ((conv => whnf); first | with_reducible refine O_step ?_ | with_reducible refine S_step ?_ | with_reducible refine D_step ?_ | with_reducible refine RO.exit ?_ | with_reducible refine RO.ret ?_ | ((with_reducible refine And.intro ?sc ?_); case sc => exact side) | ((with_reducible refine br_f ?sc ?_); case sc => exact sideB) | ((with_reducible refine br_t ?sc ?_); case sc => exact sideB))
      intro zs hzs
      obtain rfl : zs = o.take k := by rw [hzs]; simp
      repeat ((conv => whnf); first | with_reducible refine O_step ?_ | with_reducible refine S_step ?_ | with_reducible refine D_step ?_ | with_reducible refine RO.exit ?_ | with_reducible refine RO.ret ?_ | ((with_reducible refine And.intro ?sc ?_); case sc => exact side) | ((with_reducible refine br_f ?sc ?_); case sc => exact sideB) | ((with_reducible refine br_t ?sc ?_); case sc => exact sideB))
      intro c2 hc2
      repeat ((conv => whnf); first | with_reducible refine O_step ?_ | with_reducible refine S_step ?_ | with_reducible refine D_step ?_ | with_reducible refine RO.exit ?_ | with_reducible refine RO.ret ?_ | ((with_reducible refine And.intro ?sc ?_); case sc => exact side) | ((with_reducible refine br_f ?sc ?_); case sc => exact sideB) | ((with_reducible refine br_t ?sc ?_); case sc => exact sideB))
      intro zs2 hzs2
      obtain rfl : zs2 = [l[i]] := by rw [hzs2, ← hgx]; rfl
      repeat ((conv => whnf); first | with_reducible refine O_step ?_ | with_reducible refine S_step ?_ | with_reducible refine D_step ?_ | with_reducible refine RO.exit ?_ | with_reducible refine RO.ret ?_ | ((with_reducible refine And.intro ?sc ?_); case sc => exact side) | ((with_reducible refine br_f ?sc ?_); case sc => exact sideB) | ((with_reducible refine br_t ?sc ?_); case sc => exact sideB))
      intro c3 hc3
      have hoff : offS c1 (k : Int).toNat 0 1 + (o.length - (k : Int).toNat) ≤ o.length := by
        rw [Int.toNat_natCast]
        by_cases e : c1 = k
        · unfold offS; rw [if_pos e]; omega
        · rw [offS_1 e]; omega
      repeat ((conv => whnf); first | with_reducible refine O_step ?_ | with_reducible refine S_step ?_ | with_reducible refine D_step ?_ | with_reducible refine RO.exit ?_ | with_reducible refine RO.ret ?_ | ((with_reducible refine And.intro ?sc ?_); case sc => exact side) | ((with_reducible refine br_f ?sc ?_); case sc => exact sideB) | ((with_reducible refine br_t ?sc ?_); case sc => exact sideB))
      intro zs3 hzs3
      obtain rfl : zs3 = o.drop k := by
        rw [hzs3]
        by_cases e : c1 = k
        · have : o.length ≤ k := by omega
          simp [List.drop_of_length_le this, this]
        · rw [Int.toNat_natCast, offS_1 e, Nat.zero_add]; exact List.take_of_length_le (by rw [List.length_drop]; exact Nat.le_refl _)
      repeat ((conv => whnf); first | with_reducible refine O_step ?_ | with_reducible refine S_step ?_ | with_reducible refine D_step ?_ | with_reducible refine RO.exit ?_ | with_reducible refine RO.ret ?_ | ((with_reducible refine And.intro ?sc ?_); case sc => exact side) | ((with_reducible refine br_f ?sc ?_); case sc => exact sideB) | ((with_reducible refine br_t ?sc ?_); case sc => exact sideB))
      intro c4 hc4
      have hlen : (o.take k ++ [l[i]] ++ o.drop k).length = (k : Int).toNat + 1 + (o.length - (k : Int).toNat) := by
        rw [List.length_append, List.length_append, List.length_take, List.length_drop, List.length_singleton, Int.toNat_natCast]; omega
      have hc4' : (k : Int).toNat + 1 + (o.length - (k : Int).toNat) ≤ c4 := hc4
      repeat ((conv => whnf); first | with_reducible refine O_step ?_ | with_reducible refine S_step ?_ | with_reducible refine D_step ?_ | with_reducible refine RO.exit ?_ | with_reducible refine RO.ret ?_ | ((with_reducible refine And.intro ?sc ?_); case sc => exact side) | ((with_reducible refine br_f ?sc ?_); case sc => exact sideB) | ((with_reducible refine br_t ?sc ?_); case sc => exact sideB))
      refine RO.mk (i + 1, o.take k ++ [l[i]] ++ o.drop k, g + 1, c4) [(0, .sl 0 0 0 l.length c0), (3, .sl 2 2 0 (o.take k ++ [l[i]] ++ o.drop k).length c4), (4, .int .i64 ((i : Int) + 1))] _ ⟨by omega, by show (o.take k ++ [l[i]] ++ o.drop k).length ≤ c4; rw [hlen]; exact hc4', ?_, ins_sorted i4 (by omega) k2 hgt⟩ (show l.length - (i + 1) < l.length - i by omega)
        (And.intro rfl (And.intro ?_ (And.intro rfl trivial))) rfl (Vw.move (i := 1) (k := 2) rfl rfl rfl (And.intro mvV.same (And.intro mvV.sl (And.intro (.inl rfl) trivial)))) (And.intro rfl (And.intro rfl (trivial)))
      · show (o.take k ++ [l[i]] ++ o.drop k).Perm (l.take (i + 1))
        rw [List.take_succ_eq_append_getElem hil]
        exact (ins_perm o k l[i]).trans (i3.append_right _)
      · show AV.sl 2 2 0 ((k : Int).toNat + 1 + (o.length - (k : Int).toNat)) c4 = AV.sl 2 2 0 (o.take k ++ [l[i]] ++ o.drop k).length c4
        rw [hlen]
  · have hie : i = l.length := by simp only [decide_eq_false_iff_not] at hi; omega
    subst hie
    rw [List.take_length] at i3
    repeat ((conv => whnf); first | with_reducible refine O_step ?_ | with_reducible refine S_step ?_ | with_reducible refine D_step ?_ | with_reducible refine RO.exit ?_ | with_reducible refine RO.ret ?_ | ((with_reducible refine And.intro ?sc ?_); case sc => exact side) | ((with_reducible refine br_f ?sc ?_); case sc => exact sideB) | ((with_reducible refine br_t ?sc ?_); case sc => exact sideB))
    exact Exists.intro [.one false 0 (.ints .i64 l c), .one true g (.ints .i64 o c1)] (And.intro (And.intro rfl (And.intro rfl (trivial))) (And.intro ⟨trivial, trivial, trivial⟩ (And.intro rfl ⟨o, g, c1, rfl, rfl, i2, i3, i4⟩)))
end

end Go.Proofs.Ytdnmbmnfglbfoaa
