/- Layer 6: HuffBack. -/
import Derived.Test.YtdnmbmnfglbfoaaH26

import Derived.Test.YtdnmbmnfglbfoaaLH3

import Derived.Test.YtdnmbmnfglbfoaaLH4

set_option linter.unusedVariables false

set_option linter.unusedSimpArgs false

open Go.RowKit

namespace Go.Proofs.Ytdnmbmnfglbfoaa

set_option maxRecDepth 10000

theorem shl_u16 {x : Int} (h1 : 0 ≤ x) (h15 : x ≤ 15) : shlF .u16 1 x = 2 ^ x.toNat := by
  obtain ⟨n, rfl⟩ : ∃ n : Nat, x = n := ⟨x.toNat, by omega⟩
  rw [Int.toNat_natCast]
  match n, h15 with
  | 0, _ => decide
  | 1, _ => decide
  | 2, _ => decide
  | 3, _ => decide
  | 4, _ => decide
  | 5, _ => decide
  | 6, _ => decide
  | 7, _ => decide
  | 8, _ => decide
  | 9, _ => decide
  | 10, _ => decide
  | 11, _ => decide
  | 12, _ => decide
  | 13, _ => decide
  | 14, _ => decide
  | 15, _ => decide
  | n + 16, h => exact absurd h (by omega)
theorem codesF_ok {L : List Int} (he : eachE L = 0) : codesF L = ((codesF L).1, 0) ∧ (codesF L).1.length = L.length := by
  unfold codesF
  rw [if_pos he]
  exact ⟨rfl, by simp only [layC_len, List.length_replicate]⟩
theorem codes_apart {L : List Int} (he : eachE L = 0) {i k : Nat} (hi : hasC L i) (hk : hasC L k) (hik : i ≠ k) (hle : L.getD i 0 ≤ L.getD k 0) : (codesF L).1.getD k 0 % 2 ^ (L.getD i 0).toNat ≠ (codesF L).1.getD i 0 := by
  obtain ⟨t, t1, t2, _, t4, t5⟩ := symB_tell he hi
  obtain ⟨u, u1, u2, _, u4, u5⟩ := symB_tell he hk
  rw [Int.toNat_natCast] at t4 t5 u4 u5
  rw [t4, u4, t5]
  exact codes_free t1 u1 (fun e => hik (by subst e; omega)) (by omega)
theorem huffBack_law (fr : List Int) (c : Nat) (hc : fr.length ≤ c ∧ c ≤ 9223372036854775807) (hx : ∀ x ∈ fr, IntKind.i64.min ≤ x ∧ x ≤ IntKind.i64.max) (limit : Int) (hlim : IntKind.i64.min ≤ limit ∧ limit ≤ IntKind.i64.max)
    (sy : List Int) (cs : Nat) (hcs : sy.length ≤ cs ∧ cs ≤ 9223372036854775807) (hxs : ∀ x ∈ sy, IntKind.i64.min ≤ x ∧ x ≤ IntKind.i64.max) :
    CallA Try.prog 10 [.sl 0 0 0 fr.length c, .int .i64 limit, .sl 1 0 0 sy.length cs] [.one false 0 (.ints .i64 fr c), .one false 0 (.ints .i64 sy cs)] (fun r _ => r = .bo true) (fun _ _ => False) := by
  refine CallA.post_asB ?_
  refine step10 (fun _ => [2, 3]) [] rfl ?_
  repeat ((conv => whnf); first | with_reducible refine O_step ?_ | with_reducible refine S_step ?_ | with_reducible refine D_step ?_ | with_reducible refine RO.exit ?_ | with_reducible refine RO.ret ?_ | ((with_reducible refine And.intro ?sc ?_); case sc => exact side) | ((with_reducible refine br_f ?sc ?_); case sc => exact sideB) | ((with_reducible refine br_t ?sc ?_); case sc => exact sideB))
  refine And.intro (fun h1 => ?_) (fun h1 => ?_)
  · repeat ((conv => whnf); first | with_reducible refine O_step ?_ | with_reducible refine S_step ?_ | with_reducible refine D_step ?_ | with_reducible refine RO.exit ?_ | with_reducible refine RO.ret ?_ | ((with_reducible refine And.intro ?sc ?_); case sc => exact side) | ((with_reducible refine br_f ?sc ?_); case sc => exact sideB) | ((with_reducible refine br_t ?sc ?_); case sc => exact sideB))
    exact ⟨true, rfl, rfl⟩
  have h1' : ¬ (100 : Int) < fr.length := by simpa using h1
  repeat ((conv => whnf); first | with_reducible refine O_step ?_ | with_reducible refine S_step ?_ | with_reducible refine D_step ?_ | with_reducible refine RO.exit ?_ | with_reducible refine RO.ret ?_ | ((with_reducible refine And.intro ?sc ?_); case sc => exact side) | ((with_reducible refine br_f ?sc ?_); case sc => exact sideB) | ((with_reducible refine br_t ?sc ?_); case sc => exact sideB))
  refine And.intro (fun h2 => ?_) (fun h2 => ?_)
  · repeat ((conv => whnf); first | with_reducible refine O_step ?_ | with_reducible refine S_step ?_ | with_reducible refine D_step ?_ | with_reducible refine RO.exit ?_ | with_reducible refine RO.ret ?_ | ((with_reducible refine And.intro ?sc ?_); case sc => exact side) | ((with_reducible refine br_f ?sc ?_); case sc => exact sideB) | ((with_reducible refine br_t ?sc ?_); case sc => exact sideB))
    exact ⟨true, rfl, rfl⟩
  have h2' : ¬ (200 : Int) < sy.length := by simpa using h2
  have hls := lengthsF_cases fr limit
  generalize hLL : lengthsF fr limit = LL at hls
  obtain ⟨L, e⟩ := LL
  simp only at hls
  repeat ((conv => whnf); first | with_reducible refine O_step ?_ | with_reducible refine S_step ?_ | with_reducible refine D_step ?_ | with_reducible refine RO.exit ?_ | with_reducible refine RO.ret ?_ | ((with_reducible refine And.intro ?sc ?_); case sc => exact side) | ((with_reducible refine br_f ?sc ?_); case sc => exact sideB) | ((with_reducible refine br_t ?sc ?_); case sc => exact sideB))
  refine lengths_at (i := 0) (fr := fr) rfl rfl (by omega) fun g2 c2 hc2 => ?_
  rw [hLL]
  repeat ((conv => whnf); first | with_reducible refine O_step ?_ | with_reducible refine S_step ?_ | with_reducible refine D_step ?_ | with_reducible refine RO.exit ?_ | with_reducible refine RO.ret ?_ | ((with_reducible refine And.intro ?sc ?_); case sc => exact side) | ((with_reducible refine br_f ?sc ?_); case sc => exact sideB) | ((with_reducible refine br_t ?sc ?_); case sc => exact sideB))
  refine And.intro (fun h3 => ?_) (fun h3 => ?_)
  · repeat ((conv => whnf); first | with_reducible refine O_step ?_ | with_reducible refine S_step ?_ | with_reducible refine D_step ?_ | with_reducible refine RO.exit ?_ | with_reducible refine RO.ret ?_ | ((with_reducible refine And.intro ?sc ?_); case sc => exact side) | ((with_reducible refine br_f ?sc ?_); case sc => exact sideB) | ((with_reducible refine br_t ?sc ?_); case sc => exact sideB))
    refine hcodes_at ?_
    repeat ((conv => whnf); first | with_reducible refine O_step ?_ | with_reducible refine S_step ?_ | with_reducible refine D_step ?_ | with_reducible refine RO.exit ?_ | with_reducible refine RO.ret ?_ | ((with_reducible refine And.intro ?sc ?_); case sc => exact side) | ((with_reducible refine br_f ?sc ?_); case sc => exact sideB) | ((with_reducible refine br_t ?sc ?_); case sc => exact sideB))
    exact ⟨true, rfl, rfl⟩
  have hls2 : 1 ≤ limit ∧ limit ≤ 15 ∧ fr.length ≤ 320 ∧ LensOk fr limit.toNat L := by
    rcases hls with h | h
    · exfalso; have := h.2; simp at h3; exact this h3
    · exact ⟨h.2.1, h.2.2.1, h.2.2.2.1, h.2.2.2.2.2.2.2⟩
  clear hls
  obtain ⟨l1, l15, h320, ok⟩ := hls2
  have hLl := ok.len
  have he : eachE L = 0 := ok.makes (by omega) h320
  obtain ⟨hce, hcl⟩ := codesF_ok he
  have hLb : ∀ j, j < L.length → 0 ≤ L.getD j 0 ∧ L.getD j 0 ≤ 15 := fun j hj => by have := ok.rg (s := j) (by omega); omega
  have hLu : ∀ x ∈ L, 0 ≤ x ∧ x < 256 := by
    intro x hx
    obtain ⟨j, hj, rfl⟩ := List.getElem_of_mem hx
    have := hLb j hj
    rw [List.getD_eq_getElem?_getD, List.getElem?_eq_getElem hj, Option.getD_some] at this
    omega
  have hcode : ∀ j : Nat, j < L.length → 0 < L.getD j 0 → hasC L j := fun j hj hp => ⟨Int.natCast_nonneg j, by omega, by rw [Int.toNat_natCast]; omega, by rw [Int.toNat_natCast]; exact (hLb j hj).2⟩
  repeat ((conv => whnf); first | with_reducible refine O_step ?_ | with_reducible refine S_step ?_ | with_reducible refine D_step ?_ | with_reducible refine RO.exit ?_ | with_reducible refine RO.ret ?_ | ((with_reducible refine And.intro ?sc ?_); case sc => exact side) | ((with_reducible refine br_f ?sc ?_); case sc => exact sideB) | ((with_reducible refine br_t ?sc ?_); case sc => exact sideB))
  refine codes_at (i := 2) (ls := L) rfl rfl (by omega) hLu fun g3 c3 hc3 => ?_
  rw [hce]
  generalize hC : (codesF L).1 = C at hcl hce hc3 ⊢
  repeat ((conv => whnf); first | with_reducible refine O_step ?_ | with_reducible refine S_step ?_ | with_reducible refine D_step ?_ | with_reducible refine RO.exit ?_ | with_reducible refine RO.ret ?_ | ((with_reducible refine And.intro ?sc ?_); case sc => exact side) | ((with_reducible refine br_f ?sc ?_); case sc => exact sideB) | ((with_reducible refine br_t ?sc ?_); case sc => exact sideB))
  refine hnew_at (i := 2) (ls := L) rfl rfl (by omega) hLu (fun h => absurd he h) fun _ => ?_
  repeat ((conv => whnf); first | with_reducible refine O_step ?_ | with_reducible refine S_step ?_ | with_reducible refine D_step ?_ | with_reducible refine RO.exit ?_ | with_reducible refine RO.ret ?_ | ((with_reducible refine And.intro ?sc ?_); case sc => exact side) | ((with_reducible refine br_f ?sc ?_); case sc => exact sideB) | ((with_reducible refine br_t ?sc ?_); case sc => exact sideB))
  refine And.intro (fun x1 => ?_) (fun x1 => ?_)
  · exfalso; simp [hcl] at x1
  repeat ((conv => whnf); first | with_reducible refine O_step ?_ | with_reducible refine S_step ?_ | with_reducible refine D_step ?_ | with_reducible refine RO.exit ?_ | with_reducible refine RO.ret ?_ | ((with_reducible refine And.intro ?sc ?_); case sc => exact side) | ((with_reducible refine br_f ?sc ?_); case sc => exact sideB) | ((with_reducible refine br_t ?sc ?_); case sc => exact sideB))
  refine WO.go (σ := Nat) (fun i => i ≤ C.length) (fun i => C.length - i)
    (fun i => [(2, .sl 1 0 0 sy.length cs), (7, .sl 2 g2 0 L.length c2), (9, .sl 3 g3 0 C.length c3), (11, .ptr 5 0 0), (13, .int .i64 (i : Int))])
    (fun _ => [.gone, .one false 0 (.ints .i64 sy cs), .one true g2 (.ints .u8 L c2), .one true g3 (.ints .u16 C c3), .one true 0 (.map (.pair .i64 .i64) (mzM (layM (tellS L 15).2 []))), .one true 0 (.cells [.mp 4 0])]) 0 tb_ok mixed (by kernel_rfl) (Nat.zero_le _) (And.intro rfl (And.intro rfl (And.intro rfl (And.intro rfl (And.intro rfl (trivial)))))) (And.intro trivial (And.intro rfl (And.intro rfl (And.intro rfl (And.intro rfl (And.intro rfl (trivial))))))) (fun _ => rfl) (fun _ => rfl) (fun _ => ⟨trivial, trivial, trivial, trivial, mz_nb _ (.pair .i64 .i64) _, rfl, trivial⟩) ?_
  intro i i1 d
  have i1 : i ≤ C.length := i1
  repeat ((conv => whnf); first | with_reducible refine O_step ?_ | with_reducible refine S_step ?_ | with_reducible refine D_step ?_ | with_reducible refine RO.exit ?_ | with_reducible refine RO.ret ?_ | ((with_reducible refine And.intro ?sc ?_); case sc => exact side) | ((with_reducible refine br_f ?sc ?_); case sc => exact sideB) | ((with_reducible refine br_t ?sc ?_); case sc => exact sideB))
  refine And.intro (fun hi => ?_) (fun hi => ?_)
  · have hil : i < C.length := by simp only [decide_eq_true_eq] at hi; omega
    have hiL : i < L.length := by omega
    have bi : 0 ≤ L.getD ((i : Int).toNat + 0) 0 ∧ L.getD ((i : Int).toNat + 0) 0 ≤ 15 := hLb i hiL
    repeat ((conv => whnf); first | with_reducible refine O_step ?_ | with_reducible refine S_step ?_ | with_reducible refine D_step ?_ | with_reducible refine RO.exit ?_ | with_reducible refine RO.ret ?_ | ((with_reducible refine And.intro ?sc ?_); case sc => exact side) | ((with_reducible refine br_f ?sc ?_); case sc => exact sideB) | ((with_reducible refine br_t ?sc ?_); case sc => exact sideB))
    refine WO.go (σ := Nat) (fun k => k ≤ C.length) (fun k => C.length - k)
      (fun k => [(2, .sl 1 0 0 sy.length cs), (7, .sl 2 g2 0 L.length c2), (9, .sl 3 g3 0 C.length c3), (11, .ptr 5 0 0), (13, .int .i64 (i : Int)), (14, .int .i64 (k : Int))])
      (fun _ => [.gone, .one false 0 (.ints .i64 sy cs), .one true g2 (.ints .u8 L c2), .one true g3 (.ints .u16 C c3), .one true 0 (.map (.pair .i64 .i64) (mzM (layM (tellS L 15).2 []))), .one true 0 (.cells [.mp 4 0])]) 0 tb_ok mixed (by kernel_rfl) (Nat.zero_le _) (And.intro rfl (And.intro rfl (And.intro rfl (And.intro rfl (And.intro rfl (And.intro rfl (trivial))))))) (And.intro trivial (And.intro rfl (And.intro rfl (And.intro rfl (And.intro rfl (And.intro rfl (trivial))))))) (fun _ => rfl) (fun _ => rfl) (fun _ => ⟨trivial, trivial, trivial, trivial, mz_nb _ (.pair .i64 .i64) _, rfl, trivial⟩) ?_
    intro k k1 d2
    have k1 : k ≤ C.length := k1
    repeat ((conv => whnf); first | with_reducible refine O_step ?_ | with_reducible refine S_step ?_ | with_reducible refine D_step ?_ | with_reducible refine RO.exit ?_ | with_reducible refine RO.ret ?_ | ((with_reducible refine And.intro ?sc ?_); case sc => exact side) | ((with_reducible refine br_f ?sc ?_); case sc => exact sideB) | ((with_reducible refine br_t ?sc ?_); case sc => exact sideB))
    refine And.intro (fun hk => ?_) (fun hk => ?_)
    · have hkl : k < C.length := by simp only [decide_eq_true_eq] at hk; omega
      have hkL : k < L.length := by omega
      have bk : 0 ≤ L.getD ((k : Int).toNat + 0) 0 ∧ L.getD ((k : Int).toNat + 0) 0 ≤ 15 := hLb k hkL
      have hsh : shlF .u16 1 (L.getD ((i : Int).toNat + 0) 0) = 2 ^ (L.getD i 0).toNat := shl_u16 bi.1 bi.2
      have hsp : 0 < shlF .u16 1 (L.getD ((i : Int).toNat + 0) 0) := by rw [hsh]; exact pow2_pos _
      repeat ((conv => whnf); first | with_reducible refine O_step ?_ | with_reducible refine S_step ?_ | with_reducible refine D_step ?_ | with_reducible refine RO.exit ?_ | with_reducible refine RO.ret ?_ | ((with_reducible refine And.intro ?sc ?_); case sc => exact side) | ((with_reducible refine br_f ?sc ?_); case sc => exact sideB) | ((with_reducible refine br_t ?sc ?_); case sc => exact sideB))
      refine And.intro (fun y1 => ?_) (fun y1 => ?_)
      · repeat ((conv => whnf); first | with_reducible refine O_step ?_ | with_reducible refine S_step ?_ | with_reducible refine D_step ?_ | with_reducible refine RO.exit ?_ | with_reducible refine RO.ret ?_ | ((with_reducible refine And.intro ?sc ?_); case sc => exact side) | ((with_reducible refine br_f ?sc ?_); case sc => exact sideB) | ((with_reducible refine br_t ?sc ?_); case sc => exact sideB))
        refine And.intro (fun y2 => ?_) (fun y2 => ?_)
        · repeat ((conv => whnf); first | with_reducible refine O_step ?_ | with_reducible refine S_step ?_ | with_reducible refine D_step ?_ | with_reducible refine RO.exit ?_ | with_reducible refine RO.ret ?_ | ((with_reducible refine And.intro ?sc ?_); case sc => exact side) | ((with_reducible refine br_f ?sc ?_); case sc => exact sideB) | ((with_reducible refine br_t ?sc ?_); case sc => exact sideB))
          refine And.intro (fun y3 => ?_) (fun y3 => ?_)
          · repeat ((conv => whnf); first | with_reducible refine O_step ?_ | with_reducible refine S_step ?_ | with_reducible refine D_step ?_ | with_reducible refine RO.exit ?_ | with_reducible refine RO.ret ?_ | ((with_reducible refine And.intro ?sc ?_); case sc => exact side) | ((with_reducible refine br_f ?sc ?_); case sc => exact sideB) | ((with_reducible refine br_t ?sc ?_); case sc => exact sideB))
            refine And.intro (fun y4 => ?_) (fun y4 => ?_)
            · exfalso
              simp only [decide_eq_true_eq] at y2 y3 y4
              have y1' : i ≠ k := by intro e; subst e; simp at y1
              have y2' : 0 < L.getD i 0 := y2
              have y3' : L.getD i 0 ≤ L.getD k 0 := y3
              have hci := hcode i hiL y2'
              have hck := hcode k hkL (by omega)
              have hb := (symB_bnd he hck).1
              rw [Int.toNat_natCast, hC] at hb
              have ha := codes_apart he hci hck y1' y3'
              rw [hC] at ha
              have y4' : (C.getD k 0).tmod (shlF .u16 1 (L.getD ((i : Int).toNat + 0) 0)) = C.getD i 0 := y4
              rw [hsh, Int.tmod_eq_emod_of_nonneg hb] at y4'
              exact ha y4'
            · repeat ((conv => whnf); first | with_reducible refine O_step ?_ | with_reducible refine S_step ?_ | with_reducible refine D_step ?_ | with_reducible refine RO.exit ?_ | with_reducible refine RO.ret ?_ | ((with_reducible refine And.intro ?sc ?_); case sc => exact side) | ((with_reducible refine br_f ?sc ?_); case sc => exact sideB) | ((with_reducible refine br_t ?sc ?_); case sc => exact sideB))
              refine RO.same (k + 1) (by show k + 1 ≤ _; omega) (show C.length - (k + 1) < C.length - k by omega) (And.intro rfl (And.intro rfl (And.intro rfl (And.intro rfl (And.intro rfl (And.intro rfl (trivial))))))) (And.intro trivial (And.intro rfl (And.intro rfl (And.intro rfl (And.intro rfl (And.intro rfl (trivial)))))))
          · repeat ((conv => whnf); first | with_reducible refine O_step ?_ | with_reducible refine S_step ?_ | with_reducible refine D_step ?_ | with_reducible refine RO.exit ?_ | with_reducible refine RO.ret ?_ | ((with_reducible refine And.intro ?sc ?_); case sc => exact side) | ((with_reducible refine br_f ?sc ?_); case sc => exact sideB) | ((with_reducible refine br_t ?sc ?_); case sc => exact sideB))
            refine RO.same (k + 1) (by show k + 1 ≤ _; omega) (show C.length - (k + 1) < C.length - k by omega) (And.intro rfl (And.intro rfl (And.intro rfl (And.intro rfl (And.intro rfl (And.intro rfl (trivial))))))) (And.intro trivial (And.intro rfl (And.intro rfl (And.intro rfl (And.intro rfl (And.intro rfl (trivial)))))))
        · repeat ((conv => whnf); first | with_reducible refine O_step ?_ | with_reducible refine S_step ?_ | with_reducible refine D_step ?_ | with_reducible refine RO.exit ?_ | with_reducible refine RO.ret ?_ | ((with_reducible refine And.intro ?sc ?_); case sc => exact side) | ((with_reducible refine br_f ?sc ?_); case sc => exact sideB) | ((with_reducible refine br_t ?sc ?_); case sc => exact sideB))
          refine RO.same (k + 1) (by show k + 1 ≤ _; omega) (show C.length - (k + 1) < C.length - k by omega) (And.intro rfl (And.intro rfl (And.intro rfl (And.intro rfl (And.intro rfl (And.intro rfl (trivial))))))) (And.intro trivial (And.intro rfl (And.intro rfl (And.intro rfl (And.intro rfl (And.intro rfl (trivial)))))))
      · repeat ((conv => whnf); first | with_reducible refine O_step ?_ | with_reducible refine S_step ?_ | with_reducible refine D_step ?_ | with_reducible refine RO.exit ?_ | with_reducible refine RO.ret ?_ | ((with_reducible refine And.intro ?sc ?_); case sc => exact side) | ((with_reducible refine br_f ?sc ?_); case sc => exact sideB) | ((with_reducible refine br_t ?sc ?_); case sc => exact sideB))
        refine RO.same (k + 1) (by show k + 1 ≤ _; omega) (show C.length - (k + 1) < C.length - k by omega) (And.intro rfl (And.intro rfl (And.intro rfl (And.intro rfl (And.intro rfl (And.intro rfl (trivial))))))) (And.intro trivial (And.intro rfl (And.intro rfl (And.intro rfl (And.intro rfl (And.intro rfl (trivial)))))))
    · repeat ((conv => whnf); first | with_reducible refine O_step ?_ | with_reducible refine S_step ?_ | with_reducible refine D_step ?_ | with_reducible refine RO.exit ?_ | with_reducible refine RO.ret ?_ | ((with_reducible refine And.intro ?sc ?_); case sc => exact side) | ((with_reducible refine br_f ?sc ?_); case sc => exact sideB) | ((with_reducible refine br_t ?sc ?_); case sc => exact sideB))
      refine RO.same (i + 1) (by show i + 1 ≤ _; omega) (show C.length - (i + 1) < C.length - i by omega) (And.intro rfl (And.intro rfl (And.intro rfl (And.intro rfl (And.intro rfl (trivial)))))) (And.intro trivial (And.intro rfl (And.intro rfl (And.intro rfl (And.intro rfl (And.intro rfl (trivial)))))))
  repeat ((conv => whnf); first | with_reducible refine O_step ?_ | with_reducible refine S_step ?_ | with_reducible refine D_step ?_ | with_reducible refine RO.exit ?_ | with_reducible refine RO.ret ?_ | ((with_reducible refine And.intro ?sc ?_); case sc => exact side) | ((with_reducible refine br_f ?sc ?_); case sc => exact sideB) | ((with_reducible refine br_t ?sc ?_); case sc => exact sideB))
  refine WO.gov (σ := Nat × List Int × (Nat × Nat) × (Nat × Nat)) (fun s => s.1 ≤ sy.length ∧ s.2.1.length ≤ s.1 ∧ s.2.1.length ≤ s.2.2.1.2 ∧ (packF (symsB L s.2.1)).length ≤ s.2.2.2.2 ∧ (∀ x ∈ s.2.1, hasC L x) ∧ (symsB L s.2.1).length ≤ 15 * s.2.1.length) (fun s => sy.length - s.1)
    (fun s => [(2, .sl 1 0 0 sy.length cs), (7, .sl 2 g2 0 L.length c2), (9, .sl 3 g3 0 C.length c3), (11, .ptr 5 0 0), (15, .ptr 6 0 0), (16, .sl 8 s.2.2.1.1 0 s.2.1.length s.2.2.1.2), (17, .int .i64 (s.1 : Int))])
    (fun s => [.gone, .one false 0 (.ints .i64 sy cs), .one true g2 (.ints .u8 L c2), .one true g3 (.ints .u16 C c3), .one true 0 (.map (.pair .i64 .i64) (mzM (layM (tellS L 15).2 []))), .one true 0 (.cells [.mp 4 0]), wo 7 s.2.2.2.1 s.2.2.2.2 (symsB L s.2.1), wb s.2.2.2.1 s.2.2.2.2 (symsB L s.2.1), .one true s.2.2.1.1 (.ints .i64 s.2.1 s.2.2.1.2)]) (0, [], (0, 0), (0, 0)) tb_ok mixed (by kernel_rfl)
    [(2, .sl 1 0 0 sy.length cs), (7, .sl 2 g2 0 L.length c2), (9, .sl 3 g3 0 C.length c3), (11, .ptr 5 0 0), (15, .ptr 6 0 0), (16, .ns), (17, .int .i64 0)] _ ⟨Nat.zero_le _, Nat.le_refl _, Nat.le_refl _, (by show (packF (symsB L [])).length ≤ 0; rw [packF_length]; show (symsB L []).length / 8 ≤ 0; simp [symsB]), (fun x hx => by cases hx), Nat.le_refl _⟩ (And.intro rfl (And.intro rfl (And.intro rfl (And.intro rfl (And.intro rfl (And.intro rfl (And.intro rfl (trivial)))))))) rfl
    (Vw.trans (Vw.writer (i := 6) rfl) (Vw.nils (x := .ints .i64 [] 0) ⟨rfl, rfl⟩ (And.intro (.inl rfl) (And.intro (.inl rfl) (And.intro (.inl rfl) (And.intro (.inl rfl) (And.intro (.inl rfl) (And.intro (.inr ⟨rfl, rfl⟩) (And.intro (.inl rfl) trivial))))))))) (And.intro trivial (And.intro rfl (And.intro rfl (And.intro rfl (And.intro rfl (And.intro rfl (And.intro rfl (And.intro rfl (And.intro rfl (trivial)))))))))) (fun _ => rfl) (fun _ => rfl) (fun _ => ⟨trivial, trivial, trivial, trivial, mz_nb _ (.pair .i64 .i64) _, rfl, rfl, trivial, trivial, trivial⟩) ?_
  rintro ⟨i, ws, ⟨g, cw⟩, ⟨gw, cb⟩⟩ ⟨i1, i2, i3, i4, i5, i6⟩ d1
  simp only at i1 i2 i3 i4 i5 i6
  repeat ((conv => whnf); first | with_reducible refine O_step ?_ | with_reducible refine S_step ?_ | with_reducible refine D_step ?_ | with_reducible refine RO.exit ?_ | with_reducible refine RO.ret ?_ | ((with_reducible refine And.intro ?sc ?_); case sc => exact side) | ((with_reducible refine br_f ?sc ?_); case sc => exact sideB) | ((with_reducible refine br_t ?sc ?_); case sc => exact sideB))
  refine And.intro (fun hi => ?_) (fun hi => ?_)
  · have hil : i < sy.length := by simp only [decide_eq_true_eq] at hi; omega
    repeat ((conv => whnf); first | with_reducible refine O_step ?_ | with_reducible refine S_step ?_ | with_reducible refine D_step ?_ | with_reducible refine RO.exit ?_ | with_reducible refine RO.ret ?_ | ((with_reducible refine And.intro ?sc ?_); case sc => exact side) | ((with_reducible refine br_f ?sc ?_); case sc => exact sideB) | ((with_reducible refine br_t ?sc ?_); case sc => exact sideB))
    refine And.intro (fun q1 => ?_) (fun q1 => ?_)
    · repeat ((conv => whnf); first | with_reducible refine O_step ?_ | with_reducible refine S_step ?_ | with_reducible refine D_step ?_ | with_reducible refine RO.exit ?_ | with_reducible refine RO.ret ?_ | ((with_reducible refine And.intro ?sc ?_); case sc => exact side) | ((with_reducible refine br_f ?sc ?_); case sc => exact sideB) | ((with_reducible refine br_t ?sc ?_); case sc => exact sideB))
      refine RO.same (i + 1, ws, (g, cw), (gw, cb)) ⟨by show i + 1 ≤ _; omega, by show ws.length ≤ i + 1; omega, i3, i4, i5, i6⟩ (show sy.length - (i + 1) < sy.length - i by omega) (And.intro rfl (And.intro rfl (And.intro rfl (And.intro rfl (And.intro rfl (And.intro rfl (And.intro rfl (trivial)))))))) (And.intro trivial (And.intro rfl (And.intro rfl (And.intro rfl (And.intro rfl (And.intro rfl (And.intro rfl (And.intro rfl (And.intro rfl (trivial))))))))))
    have q1' : 0 ≤ sy.getD ((i : Int).toNat + 0) 0 := by simp only [decide_eq_false_iff_not] at q1; exact Int.not_lt.1 q1
    repeat ((conv => whnf); first | with_reducible refine O_step ?_ | with_reducible refine S_step ?_ | with_reducible refine D_step ?_ | with_reducible refine RO.exit ?_ | with_reducible refine RO.ret ?_ | ((with_reducible refine And.intro ?sc ?_); case sc => exact side) | ((with_reducible refine br_f ?sc ?_); case sc => exact sideB) | ((with_reducible refine br_t ?sc ?_); case sc => exact sideB))
    refine And.intro (fun q2 => ?_) (fun q2 => ?_)
    · repeat ((conv => whnf); first | with_reducible refine O_step ?_ | with_reducible refine S_step ?_ | with_reducible refine D_step ?_ | with_reducible refine RO.exit ?_ | with_reducible refine RO.ret ?_ | ((with_reducible refine And.intro ?sc ?_); case sc => exact side) | ((with_reducible refine br_f ?sc ?_); case sc => exact sideB) | ((with_reducible refine br_t ?sc ?_); case sc => exact sideB))
      refine RO.same (i + 1, ws, (g, cw), (gw, cb)) ⟨by show i + 1 ≤ _; omega, by show ws.length ≤ i + 1; omega, i3, i4, i5, i6⟩ (show sy.length - (i + 1) < sy.length - i by omega) (And.intro rfl (And.intro rfl (And.intro rfl (And.intro rfl (And.intro rfl (And.intro rfl (And.intro rfl (trivial)))))))) (And.intro trivial (And.intro rfl (And.intro rfl (And.intro rfl (And.intro rfl (And.intro rfl (And.intro rfl (And.intro rfl (And.intro rfl (trivial))))))))))
    have q2' : sy.getD ((i : Int).toNat + 0) 0 < (L.length : Int) := by simp only [decide_eq_false_iff_not] at q2; omega
    have q3' : (sy.getD ((i : Int).toNat + 0) 0).toNat < L.length := by omega
    repeat ((conv => whnf); first | with_reducible refine O_step ?_ | with_reducible refine S_step ?_ | with_reducible refine D_step ?_ | with_reducible refine RO.exit ?_ | with_reducible refine RO.ret ?_ | ((with_reducible refine And.intro ?sc ?_); case sc => exact side) | ((with_reducible refine br_f ?sc ?_); case sc => exact sideB) | ((with_reducible refine br_t ?sc ?_); case sc => exact sideB))
    refine And.intro (fun q4 => ?_) (fun q4 => ?_)
    · repeat ((conv => whnf); first | with_reducible refine O_step ?_ | with_reducible refine S_step ?_ | with_reducible refine D_step ?_ | with_reducible refine RO.exit ?_ | with_reducible refine RO.ret ?_ | ((with_reducible refine And.intro ?sc ?_); case sc => exact side) | ((with_reducible refine br_f ?sc ?_); case sc => exact sideB) | ((with_reducible refine br_t ?sc ?_); case sc => exact sideB))
      refine RO.same (i + 1, ws, (g, cw), (gw, cb)) ⟨by show i + 1 ≤ _; omega, by show ws.length ≤ i + 1; omega, i3, i4, i5, i6⟩ (show sy.length - (i + 1) < sy.length - i by omega) (And.intro rfl (And.intro rfl (And.intro rfl (And.intro rfl (And.intro rfl (And.intro rfl (And.intro rfl (trivial)))))))) (And.intro trivial (And.intro rfl (And.intro rfl (And.intro rfl (And.intro rfl (And.intro rfl (And.intro rfl (And.intro rfl (And.intro rfl (trivial))))))))))
    have q4' : 0 < L.getD (sy.getD ((i : Int).toNat + 0) 0).toNat 0 := by
      have := hLb _ q3'
      simp only [decide_eq_false_iff_not] at q4
      have q5 : ¬ L.getD (sy.getD ((i : Int).toNat + 0) 0).toNat 0 = 0 := q4
      omega
    have hS := hcode _ q3' q4'
    rw [Int.toNat_of_nonneg q1'] at hS
    have hSb := symB_bnd he hS
    rw [hC] at hSb
    generalize hS0 : sy.getD ((i : Int).toNat + 0) 0 = S at q1' q2' q3' q4' hS hSb
    have hu16 : C.getD (S.toNat + 0) 0 < 32768 := by
      have h1 := hSb.2
      have h2 := pow2_le (show (L.getD S.toNat 0).toNat ≤ 15 by have := (hLb _ q3').2; omega)
      have h3 : (2 : Int) ^ 15 = 32768 := by decide
      show C.getD S.toNat 0 < 32768
      omega
    have hrow : symsB L (ws ++ [S]) = symsB L ws ++ symB L S := by unfold symsB; rw [List.flatMap_append]; simp
    have hput : putF (symsB L ws) (C.getD (S.toNat + 0) 0) (L.getD (S.toNat + 0) 0) = (symsB L (ws ++ [S]), 0) := by
      have hp := putF_ok (row := symsB L ws) (v := C.getD S.toNat 0) (n := (L.getD S.toNat 0).toNat) (by have := (hLb _ q3').2; omega) hSb.2 (by have := (hLb _ q3').2; omega)
      rw [hrow]
      have e1 : (((L.getD S.toNat 0).toNat : Nat) : Int) = L.getD S.toNat 0 := by have := (hLb _ q3').1; omega
      rw [e1] at hp
      show putF (symsB L ws) (C.getD S.toNat 0) (L.getD S.toNat 0) = _
      rw [hp]
      unfold symB
      rw [hC]
    have hSC : S.toNat < C.length := by omega
    have hu0 : 0 ≤ C.getD (S.toNat + 0) 0 := hSb.1
    have hmod : C.getD (S.toNat + 0) 0 % 4294967296 = C.getD (S.toNat + 0) 0 := by omega
    have hLS : 0 ≤ L.getD (S.toNat + 0) 0 ∧ L.getD (S.toNat + 0) 0 ≤ 15 := hLb _ q3'
    repeat ((conv => whnf); first | with_reducible refine O_step ?_ | with_reducible refine S_step ?_ | with_reducible refine D_step ?_ | with_reducible refine RO.exit ?_ | with_reducible refine RO.ret ?_ | ((with_reducible refine And.intro ?sc ?_); case sc => exact side) | ((with_reducible refine br_f ?sc ?_); case sc => exact sideB) | ((with_reducible refine br_t ?sc ?_); case sc => exact sideB))
    intro zs hzs
    obtain rfl : zs = [S] := by rw [hzs]; rfl
    repeat ((conv => whnf); first | with_reducible refine O_step ?_ | with_reducible refine S_step ?_ | with_reducible refine D_step ?_ | with_reducible refine RO.exit ?_ | with_reducible refine RO.ret ?_ | ((with_reducible refine And.intro ?sc ?_); case sc => exact side) | ((with_reducible refine br_f ?sc ?_); case sc => exact sideB) | ((with_reducible refine br_t ?sc ?_); case sc => exact sideB))
    intro c4 hc4
    repeat ((conv => whnf); first | with_reducible refine O_step ?_ | with_reducible refine S_step ?_ | with_reducible refine D_step ?_ | with_reducible refine RO.exit ?_ | with_reducible refine RO.ret ?_ | ((with_reducible refine And.intro ?sc ?_); case sc => exact side) | ((with_reducible refine br_f ?sc ?_); case sc => exact sideB) | ((with_reducible refine br_t ?sc ?_); case sc => exact sideB))
    refine put_at (i := 6) (j := 7) (row := symsB L ws) (row' := symsB L (ws ++ [S])) rfl rfl rfl (by rw [hmod]; exact hu0) (by omega) i4 (by rw [hmod]; exact hput) fun g9 c9 hc9 hl9 => ?_
    repeat ((conv => whnf); first | with_reducible refine O_step ?_ | with_reducible refine S_step ?_ | with_reducible refine D_step ?_ | with_reducible refine RO.exit ?_ | with_reducible refine RO.ret ?_ | ((with_reducible refine And.intro ?sc ?_); case sc => exact side) | ((with_reducible refine br_f ?sc ?_); case sc => exact sideB) | ((with_reducible refine br_t ?sc ?_); case sc => exact sideB))
    refine RO.same (i + 1, ws ++ [S], (g + 1, c4), (g9, c9)) ⟨by show i + 1 ≤ _; omega, by show (ws ++ [_]).length ≤ i + 1; rw [List.length_append]; exact Nat.succ_le_succ i2, by show (ws ++ [_]).length ≤ c4; rw [List.length_append]; exact hc4, hc9, ?_, ?_⟩ (show sy.length - (i + 1) < sy.length - i by omega)
      (And.intro rfl (And.intro rfl (And.intro rfl (And.intro rfl (And.intro rfl (And.intro ?_ (And.intro rfl trivial))))))) (And.intro trivial (And.intro rfl (And.intro rfl (And.intro rfl (And.intro rfl (And.intro rfl (And.intro rfl (And.intro rfl (And.intro rfl (trivial))))))))))
    · intro x hx
      rcases List.mem_append.1 hx with h | h
      · exact i5 x h
      · rw [List.mem_singleton.1 h]; exact hS
    · show (symsB L (ws ++ [_])).length ≤ 15 * (ws ++ [_]).length
      rw [hrow, List.length_append, List.length_append, symB_len, List.length_singleton]
      have h1 : L.getD (S).toNat 0 ≤ 15 := hLS.2
      omega
    · show AV.sl 8 (g + 1) 0 (ws.length + 1) c4 = AV.sl 8 (g + 1) 0 (ws ++ [_]).length c4
      rw [List.length_append]; rfl
  have hie : i = sy.length := by simp only [decide_eq_false_iff_not] at hi; omega
  have hwl : ws.length ≤ 200 := by omega
  repeat ((conv => whnf); first | with_reducible refine O_step ?_ | with_reducible refine S_step ?_ | with_reducible refine D_step ?_ | with_reducible refine RO.exit ?_ | with_reducible refine RO.ret ?_ | ((with_reducible refine And.intro ?sc ?_); case sc => exact side) | ((with_reducible refine br_f ?sc ?_); case sc => exact sideB) | ((with_reducible refine br_t ?sc ?_); case sc => exact sideB))
  refine bytes_at (i := 6) (j := 7) (row := symsB L ws) rfl rfl rfl (by omega) i4 fun g5 c5 hc5 => ?_
  have hbl := bytesF_length (symsB L ws)
  repeat ((conv => whnf); first | with_reducible refine O_step ?_ | with_reducible refine S_step ?_ | with_reducible refine D_step ?_ | with_reducible refine RO.exit ?_ | with_reducible refine RO.ret ?_ | ((with_reducible refine And.intro ?sc ?_); case sc => exact side) | ((with_reducible refine br_f ?sc ?_); case sc => exact sideB) | ((with_reducible refine br_t ?sc ?_); case sc => exact sideB))
  refine new_at (i := 9) (xs := bytesF (symsB L ws)) rfl rfl (by omega) fun g6 c6 hc6 => ?_
  repeat ((conv => whnf); first | with_reducible refine O_step ?_ | with_reducible refine S_step ?_ | with_reducible refine D_step ?_ | with_reducible refine RO.exit ?_ | with_reducible refine RO.ret ?_ | ((with_reducible refine And.intro ?sc ?_); case sc => exact side) | ((with_reducible refine br_f ?sc ?_); case sc => exact sideB) | ((with_reducible refine br_t ?sc ?_); case sc => exact sideB))
  refine WO.go (σ := Nat × Nat) (fun s => s.1 ≤ ws.length ∧ s.2 = (symsB L (ws.take s.1)).length) (fun s => ws.length - s.1)
    (fun s => [(11, .ptr 5 0 0), (15, .ptr 6 0 0), (16, .sl 8 g 0 ws.length cw), (19, .ptr 11 0 0), (20, .int .i64 (s.1 : Int))])
    (fun s => [.gone, .gone, .gone, .gone, .one true 0 (.map (.pair .i64 .i64) (mzM (layM (tellS L 15).2 []))), .one true 0 (.cells [.mp 4 0]), wo 7 gw cb (symsB L ws), wb gw cb (symsB L ws), .one true g (.ints .i64 ws cw), .gone, rb g6 c6 (bytesF (symsB L ws)), ro 10 g6 c6 (bytesF (symsB L ws)) s.2]) (0, 0) tb_ok mixed (by kernel_rfl) ⟨Nat.zero_le _, rfl⟩ (And.intro rfl (And.intro rfl (And.intro rfl (And.intro rfl (And.intro rfl (trivial)))))) (And.intro trivial (And.intro trivial (And.intro trivial (And.intro trivial (And.intro rfl (And.intro rfl (And.intro rfl (And.intro rfl (And.intro rfl (And.intro trivial (And.intro rfl (And.intro rfl (trivial))))))))))))) (fun _ => rfl) (fun _ => rfl) (fun _ => ⟨trivial, trivial, trivial, trivial, mz_nb _ (.pair .i64 .i64) _, rfl, rfl, trivial, trivial, trivial, trivial, rfl, trivial⟩) ?_
  rintro ⟨j, a⟩ ⟨j1, j2⟩ d3
  simp only at j1 j2
  obtain ⟨kk, hkk, hun, hul⟩ := unpack_bytesF (symsB L ws)
  have ht : allT L = (tellS L 15).2 := by unfold allT; rw [if_pos he]
  have hal : a ≤ (symsB L ws).length := by
    rw [j2]
    conv => rhs; rw [← List.take_append_drop j ws]
    unfold symsB
    rw [List.flatMap_append, List.length_append]
    omega
  repeat ((conv => whnf); first | with_reducible refine O_step ?_ | with_reducible refine S_step ?_ | with_reducible refine D_step ?_ | with_reducible refine RO.exit ?_ | with_reducible refine RO.ret ?_ | ((with_reducible refine And.intro ?sc ?_); case sc => exact side) | ((with_reducible refine br_f ?sc ?_); case sc => exact sideB) | ((with_reducible refine br_t ?sc ?_); case sc => exact sideB))
  refine And.intro (fun hj => ?_) (fun hj => ?_)
  · have hjl : j < ws.length := by simp only [decide_eq_true_eq] at hj; omega
    have hrd : treadF (layM (tellS L 15).2 []) (unpack (bytesF (symsB L ws))) a = (ws[j], (symsB L (ws.take (j + 1))).length, 0) := by
      rw [← ht, treadF_ref (by rw [unpack_length]; omega), hun, j2]
      exact read_sym he i5 hjl
    have hgw : ws.getD ((j : Int).toNat + 0) 0 = ws[j] := by simp [List.getD_eq_getElem?_getD, hjl]
    repeat ((conv => whnf); first | with_reducible refine O_step ?_ | with_reducible refine S_step ?_ | with_reducible refine D_step ?_ | with_reducible refine RO.exit ?_ | with_reducible refine RO.ret ?_ | ((with_reducible refine And.intro ?sc ?_); case sc => exact side) | ((with_reducible refine br_f ?sc ?_); case sc => exact sideB) | ((with_reducible refine br_t ?sc ?_); case sc => exact sideB))
    refine tread_at (ir := 11) (ib := 10) (im := 4) (it := 5) (g := g6) (c := c6) (xs := bytesF (symsB L ws)) (a := a) (es := layM (tellS L 15).2 []) rfl rfl rfl rfl rfl (by omega) (by omega) (bytesF_byte _) (by rw [← ht]; exact keyOk_all L) ?_
    rw [hrd]
    repeat ((conv => whnf); first | with_reducible refine O_step ?_ | with_reducible refine S_step ?_ | with_reducible refine D_step ?_ | with_reducible refine RO.exit ?_ | with_reducible refine RO.ret ?_ | ((with_reducible refine And.intro ?sc ?_); case sc => exact side) | ((with_reducible refine br_f ?sc ?_); case sc => exact sideB) | ((with_reducible refine br_t ?sc ?_); case sc => exact sideB))
    refine And.intro (fun z1 => ?_) (fun z1 => ?_)
    · exfalso; rw [hgw] at z1; simp at z1
    repeat ((conv => whnf); first | with_reducible refine O_step ?_ | with_reducible refine S_step ?_ | with_reducible refine D_step ?_ | with_reducible refine RO.exit ?_ | with_reducible refine RO.ret ?_ | ((with_reducible refine And.intro ?sc ?_); case sc => exact side) | ((with_reducible refine br_f ?sc ?_); case sc => exact sideB) | ((with_reducible refine br_t ?sc ?_); case sc => exact sideB))
    refine RO.same (j + 1, (symsB L (ws.take (j + 1))).length) ⟨by show j + 1 ≤ _; omega, rfl⟩ (show ws.length - (j + 1) < ws.length - j by omega) (And.intro rfl (And.intro rfl (And.intro rfl (And.intro rfl (And.intro rfl (trivial)))))) (And.intro trivial (And.intro trivial (And.intro trivial (And.intro trivial (And.intro rfl (And.intro rfl (And.intro rfl (And.intro rfl (And.intro rfl (And.intro trivial (And.intro rfl (And.intro rfl (trivial)))))))))))))
  · have hje : j = ws.length := by simp only [decide_eq_false_iff_not] at hj; omega
    rw [hje, List.take_length] at j2
    repeat ((conv => whnf); first | with_reducible refine O_step ?_ | with_reducible refine S_step ?_ | with_reducible refine D_step ?_ | with_reducible refine RO.exit ?_ | with_reducible refine RO.ret ?_ | ((with_reducible refine And.intro ?sc ?_); case sc => exact side) | ((with_reducible refine br_f ?sc ?_); case sc => exact sideB) | ((with_reducible refine br_t ?sc ?_); case sc => exact sideB))
    refine at_at (i := 11) (j := 10) (g := g6) (c := c6) (xs := bytesF (symsB L ws)) (a := a) rfl rfl rfl ?_
    repeat ((conv => whnf); first | with_reducible refine O_step ?_ | with_reducible refine S_step ?_ | with_reducible refine D_step ?_ | with_reducible refine RO.exit ?_ | with_reducible refine RO.ret ?_ | ((with_reducible refine And.intro ?sc ?_); case sc => exact side) | ((with_reducible refine br_f ?sc ?_); case sc => exact sideB) | ((with_reducible refine br_t ?sc ?_); case sc => exact sideB))
    refine len_at (i := 6) (j := 7) (row := symsB L ws) rfl rfl rfl (by omega) ?_
    repeat ((conv => whnf); first | with_reducible refine O_step ?_ | with_reducible refine S_step ?_ | with_reducible refine D_step ?_ | with_reducible refine RO.exit ?_ | with_reducible refine RO.ret ?_ | ((with_reducible refine And.intro ?sc ?_); case sc => exact side) | ((with_reducible refine br_f ?sc ?_); case sc => exact sideB) | ((with_reducible refine br_t ?sc ?_); case sc => exact sideB))
    refine And.intro (fun z1 => ?_) (fun z1 => ?_)
    · repeat ((conv => whnf); first | with_reducible refine O_step ?_ | with_reducible refine S_step ?_ | with_reducible refine D_step ?_ | with_reducible refine RO.exit ?_ | with_reducible refine RO.ret ?_ | ((with_reducible refine And.intro ?sc ?_); case sc => exact side) | ((with_reducible refine br_f ?sc ?_); case sc => exact sideB) | ((with_reducible refine br_t ?sc ?_); case sc => exact sideB))
      refine hcodes_at ?_
      repeat ((conv => whnf); first | with_reducible refine O_step ?_ | with_reducible refine S_step ?_ | with_reducible refine D_step ?_ | with_reducible refine RO.exit ?_ | with_reducible refine RO.ret ?_ | ((with_reducible refine And.intro ?sc ?_); case sc => exact side) | ((with_reducible refine br_f ?sc ?_); case sc => exact sideB) | ((with_reducible refine br_t ?sc ?_); case sc => exact sideB))
      exact ⟨true, rfl, rfl⟩
    · exfalso; simp [j2] at z1
end Go.Proofs.Ytdnmbmnfglbfoaa
