/- string(bs), bs a slice of bytes. -/
import Derived.Test.YtaioclggifdnhaaAb8
import Derived.Laws.BytesString
set_option linter.unusedVariables false
set_option linter.unusedSimpArgs false
open Go.RowKit
namespace Go.Proofs.Ytaioclggifdnhaa

/-- The string of bytes that are given as numbers. -/
def bytesStr (ns : List Int) : ByteArray := ns.foldl (fun r n => r.push (UInt8.ofNat n.toNat)) ByteArray.empty

/-- string(bs). -/
def strOfA (T : List TI) (M : AH) (src dst : Nat) (x : AV) (K : AV → Prop) : Prop :=
  match T[src]?, T[dst]? with
  | some ⟨.slice e, _, _, _⟩, some ⟨.str, _, _, _⟩ => match T[e]? with
    | some ⟨.int .u8, _, _, _⟩ => match x with
      | .ns => K (.str ByteArray.empty)
      | .sl i g off n c => slotA M i g fun _ y => match y with
        | .ints k xs _ => sameK .u8 k (off + n ≤ xs.length ∧ ∀ ys, ys = (xs.drop off).take n → K (.str (bytesStr ys)))
        | _ => False
      | _ => False
    | _ => False
  | _, _ => False

theorem strOfA_sound {P : Program} {T : List TI} (hT : TabOK P T) {M : AH} {src dst : Nat} {x : AV} {K : AV → Prop} {ρ : Env} (hk : Known ρ M) (h : strOfA T M src dst x K) :
    ∃ v, K v ∧ v.ok ρ ∧ x.ok ρ ∧ ∀ w, HoldsId ρ M x.id w → (convert src dst (x.c ρ)).run P w = .ok (v.c ρ) w := by
  unfold strOfA at h
  split at h
  · rename_i e _ _ _ _ _ _ h1 h2
    split at h
    · rename_i _ _ _ h3
      obtain ⟨d1, hd1, k1⟩ := hT.und h1
      obtain ⟨d2, hd2, k2⟩ := hT.und h2
      obtain ⟨d3, hd3, k3⟩ := hT.und h3
      obtain rfl := tkOf_slice k1
      obtain rfl := tkOf_str k2
      obtain rfl := tkOf_int k3
      split at h
      · exact ⟨_, h, trivial, trivial, fun w _ => by
          simp only [AV.c]
          rw [run_convert_bytes_string w src dst e none 0 0 hd1 hd3 hd2]
          rfl⟩
      · rename_i i g off n c
        obtain ⟨own, y, hsl, h⟩ := slotA_sound h
        split at h
        · rename_i k xs co
          obtain ⟨rfl, hle, h⟩ := sameK_sound h
          have hlen : ((xs.drop off).take n).length = n := by simp; omega
          refine ⟨_, h _ rfl, trivial, ?_, fun w hw => ?_⟩
          · rcases hk i g own _ hsl with ⟨q, hq⟩ | ⟨hq, _⟩ <;> simp [AV.ok, hq]
          · rcases hk i g own _ hsl with ⟨q, hq⟩ | ⟨hq, hv⟩
            · have hh := hw g own _ q hsl hq
              have : (AV.sl i g off n c).c ρ = .slice (some ⟨q.1, q.2 + off, none⟩) n c := by simp [AV.c, hq]
              rw [this, run_convert_bytes_string w src dst e _ n c hd1 hd3 hd2]
              refine run_bytesToString w _ n c _ ?_
              have hl := run_loadCells_list (P := P) w ⟨q.1, q.2 + off, none⟩ (((xs.drop off).take n).map (Value.int .u8)) fun j v hv => by
                rw [List.getElem?_map, Option.map_eq_some_iff] at hv
                obtain ⟨z, hz, rfl⟩ := hv
                simp only [List.getElem?_take, List.getElem?_drop] at hz
                split at hz
                · have := (hh.cell (k := off + j) (v := .int .u8 z) (by simp only [Cont.at, hz]; rfl)).2
                  rw [add_addr, Nat.add_assoc]
                  exact this
                · cases hz
              rw [List.length_map, hlen] at hl
              exact hl
            · have h0 : n = 0 := by
                simp only [Cont.virt] at hv
                obtain ⟨rfl, _⟩ := hv
                simp at hle
                omega
              subst h0
              have : (AV.sl i g off 0 c).c ρ = .slice none 0 c := by simp [AV.c, hq]
              rw [this, run_convert_bytes_string w src dst e none 0 c hd1 hd3 hd2]
              simp [AV.c, bytesStr, Conv.bytesToString]
        · exact h.elim
      · exact h.elim
    · exact h.elim
  · exact h.elim

end Go.Proofs.Ytaioclggifdnhaa
