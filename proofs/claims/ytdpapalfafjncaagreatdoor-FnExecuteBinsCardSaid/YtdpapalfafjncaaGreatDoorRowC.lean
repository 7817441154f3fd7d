/- What comes in, read as the walks want it: bytes, integers. Conditions: none beyond the reading. -/
import Derived.Test.YtdpapalfafjncaaGreatDoorZa
namespace Go.Proofs.YtdpapalfafjncaaGreatDoor
open Go.RowKit
/-- a slice of integers that came in: nil, or a row of 'cap' cells -/
def IsRow (k : IntKind) (w : World) (a : Option Addr) (len cap : Nat) (zs : List Int) : Prop :=
  (a = none ∧ len = 0 ∧ cap = 0 ∧ zs = []) ∨
  ∃ x, a = some x ∧ len ≤ cap ∧ cap ≤ maxLen ∧ zs.length = cap ∧ (∀ i, i < zs.length → w.cell? (x.add i) = some (.int k (zs.getD i 0))) ∧ ∀ n ∈ zs, (Lit.int k n).wf = true

theorem addr_plain {w : World} {x : Addr} {v : Value} (h : w.cell? x = some v) : x = ⟨x.block, x.off, none⟩ := by
  obtain ⟨b, o, s⟩ := x
  cases s with
  | none => rfl
  | some s =>
    simp only [World.cell?] at h
    split at h <;> simp at h
theorem IsRow.cells {k : IntKind} {w : World} {a : Option Addr} {len cap : Nat} {zs : List Int} (h : IsRow k w a len cap zs) :
    len ≤ cap ∧ (len = 0 ∨ ∃ b off, a = some ⟨b, off, none⟩ ∧ b < w.heap.size ∧ ∀ j, j < len → w.cell? ⟨b, off + j, none⟩ = some (.int k (zs.getD j 0))) := by
  rcases h with ⟨rfl, rfl, rfl, rfl⟩ | ⟨x, rfl, hl, hm, hz, hc, hw⟩
  · exact ⟨Nat.le_refl _, .inl rfl⟩
  · refine ⟨hl, ?_⟩
    by_cases h0 : len = 0
    · exact .inl h0
    · have h1 := hc 0 (by omega)
      rw [Addr.add, if_pos rfl] at h1
      have hx := addr_plain h1
      refine .inr ⟨x.block, x.off, by rw [← hx], World.block_lt_of_cell? w x h1, fun j hj => ?_⟩
      have h2 := hc j (by omega)
      rw [← h2]
      by_cases hj0 : j = 0
      · subst hj0
        rw [Addr.add, if_pos rfl, Nat.add_zero, ← hx]
      · rw [Addr.add, if_neg hj0, hx]
theorem IsRow.wf {k : IntKind} {w : World} {a : Option Addr} {len cap : Nat} {zs : List Int} (h : IsRow k w a len cap zs) : ∀ n ∈ zs, (Lit.int k n).wf = true := by
  rcases h with ⟨rfl, rfl, rfl, rfl⟩ | ⟨x, rfl, hl, hm, hz, hc, hw⟩
  · intro n hn; cases hn
  · exact hw
theorem wf_u8_bd {n : Int} (h : (Lit.int .u8 n).wf = true) : 0 ≤ n ∧ n ≤ 255 := by
  simp [Lit.wf, IntKind.min, IntKind.max, IntKind.signed, IntKind.bits] at h; omega
theorem wf_i64_bd {n : Int} (h : (Lit.int .i64 n).wf = true) : -9223372036854775808 ≤ n ∧ n ≤ 9223372036854775807 := by
  simp [Lit.wf, IntKind.min, IntKind.max, IntKind.signed, IntKind.bits] at h; omega
theorem wf_getD {k : IntKind} {zs : List Int} (h : ∀ n ∈ zs, (Lit.int k n).wf = true) (h0 : (Lit.int k 0).wf = true) (j : Nat) : (Lit.int k (zs.getD j 0)).wf = true := by
  rw [List.getD_eq_getElem?_getD]
  by_cases hj : j < zs.length
  · rw [List.getElem?_eq_getElem hj]; exact h _ (List.getElem_mem hj)
  · rw [List.getElem?_eq_none (by omega)]; exact h0
/-- bytes that came in -/
theorem IsRow.bytes {w : World} {a : Option Addr} {len cap : Nat} {zs : List Int} (h : IsRow .u8 w a len cap zs) : len ≤ cap ∧ BytesAt w w.heap.size a len := by
  obtain ⟨h1, h2⟩ := h.cells
  refine ⟨h1, h2.imp id ?_⟩
  rintro ⟨b, off, e, hb, hc⟩
  exact ⟨b, off, e, hb, fun j hj => ⟨_, (wf_u8_bd (wf_getD h.wf (by decide) j)).1, (wf_u8_bd (wf_getD h.wf (by decide) j)).2, hc j hj⟩⟩
/-- integers that came in -/
theorem IsRow.ints {w : World} {a : Option Addr} {len cap : Nat} {zs : List Int} (h : IsRow .i64 w a len cap zs) : ∃ ys, ys.length = len ∧ IntsAt w a ys := by
  obtain ⟨h1, h2⟩ := h.cells
  refine ⟨(List.range len).map (fun j => zs.getD j 0), by simp, ?_⟩
  rcases h2 with rfl | ⟨b, off, e, hb, hc⟩
  · exact .inl rfl
  · refine .inr ⟨b, off, e, hb, fun j hj => ?_⟩
    have hj' : j < len := by simpa using hj
    rw [hc j hj']
    simp [hj']
theorem IsRow.max {k : IntKind} {w : World} {a : Option Addr} {len cap : Nat} {zs : List Int} (h : IsRow k w a len cap zs) : len ≤ 9223372036854775807 := by
  rcases h with ⟨rfl, rfl, rfl, rfl⟩ | ⟨x, rfl, hl, hm, _⟩
  · omega
  · unfold maxLen at hm; omega
end Go.Proofs.YtdpapalfafjncaaGreatDoor
