/- A script that lists numbers and asks for their halves and their total. Conditions: the numbers are in range, one at least. -/
import Derived.Test.YtdpapalfafjncaaGreatDoorNH
import Derived.Test.YtdpapalfafjncaaGreatDoorNP
namespace Go.Proofs.YtdpapalfafjncaaGreatDoor
open Go.RowKit Go.Shelf

/-- the desk D has the list L, in a row of the script's own -/
def DeskAt (D : Nat) (L : List Int) (W : World) : Prop := ∃ a cap, Boxed W D 41 (.slice a L.length cap) ∧ OwnI W (D + 2) (.slice a L.length cap) L
theorem DeskAt.keep {D : Nat} {L : List Int} {W W' : World} (h : DeskAt D L W) (ho : Others (D + 1) W W') : DeskAt D L W' := by
  obtain ⟨a, cap, h1, h2⟩ := h
  refine ⟨a, cap, (ho D h1.lt (by omega) (fun cs fr e => by rw [show W.heap[D]? = _ from h1] at e; cases e)).trans h1, h2.1, ?_⟩
  rcases h2.2 with h3 | ⟨g, cp, cur, h3, hb, hg, hr⟩
  · exact .inl h3
  · exact .inr ⟨g, cp, cur, h3, hb, (ho g (Array.getElem?_eq_some_iff.1 hg).1 (by omega) (fun cs fr e => by rw [hg] at e; cases e)).trans hg, hr⟩
theorem DeskAt.nil {D : Nat} {W : World} (h : Boxed W D 41 (.slice none 0 0)) : DeskAt D [] W := ⟨none, 0, h, OwnI.nil _ _⟩
theorem DeskAt.below {D : Nat} {L : List Int} {W W' : World} (h : DeskAt D L W) (ho : Below W.heap.size W W') : DeskAt D L W' := by
  obtain ⟨a, cap, h1, h2⟩ := h
  exact ⟨a, cap, h1.kb2 ho, h2.keptB ho⟩

/-- what the line 'list ..' leaves -/
def Listed (D : Nat) (zs : List Int) (w : World) (w' : World) : Prop := ∃ a cap, Boxed w' D 41 (.slice a zs.length cap) ∧ OwnI w' (w.heap.size + 1) (.slice a zs.length cap) zs ∧ w.grownBy w' (some D)
theorem run_list (D : Nat) (zs : List Int) (v : Value) (w : World) (hz : inL zs = true) (h0 : 0 < zs.length) (hD : Boxed w D 41 v) :
    Calls Tryz.prog 24 #[.pointer (some ⟨D, 0, none⟩), .string ⟨([108, 105, 115, 116] ++ 32 :: spT zs).toArray⟩] w fun e w' => e = .returned (.string ⟨[111, 107].toArray⟩) ∧ Listed D zs w w' := by
  have hzl := (inL_iff zs).1 hz
  have hlt := hD.lt
  have hle := spT_le zs fun x hx => by have := hzl.2 x hx; omega
  refine run_rest D zs.length [108, 105, 115, 116] (spT zs) [111, 107] 70 w (by decide) (by simp; omega) (enters_of Tryz.func70 (by kernel_rfl) rfl)
    (fun a cap W => OwnI W (w.heap.size + 1) (.slice a zs.length cap) zs) (Listed D zs w) restWord_list ?_ ?_ ?_
  · intro W hB hlt
    refine (orderOf_any _ _ zs (fun x hx => by have := hzl.2 x hx; omega) h0 (by omega) W).mono ?_
    rintro e w' ⟨a, cap, rfl, h1, h2⟩
    exact ⟨a, cap, rfl, h1.mono hlt, h2⟩
  · intro W a cap hB hO hltW
    refine (renew_any D _ _ a cap zs v W hz (hD.kb2 hB) hO.ints).mono ?_
    rintro e w' ⟨rfl, hbx, w1, rfl, hB1⟩
    refine ⟨rfl, ⟨a, cap, hbx, (hO.keptB hB1).kept_below (grownBy_set _ _ _ _) (fun r e => by cases e; omega), ?_⟩, ?_⟩
    · have hB2 : Below w.heap.size w w1 := hB.trans (hB1.mono (by omega))
      exact ⟨hB2.os, hB2.tape, hB2.output, by have := hB2.size; simpa using this, fun k hk hne => (Below.heap_setCell _ _ _ _ (fun e => hne (by rw [e]))).trans (hB2.block k hk)⟩
    · exact (Below.heap_setCell _ _ _ _ (by simp; omega)).trans (hB1.block _ hltW)
  · rintro w' u ⟨a, cap, h1, h2, h3⟩
    exact ⟨a, cap, h1.other (by omega) _, h2.kept_below (grownBy_set _ _ _ _) (fun r e => by cases e; omega), h3.os, h3.tape, h3.output, by have := h3.size; simpa using this, fun k hk hne => (Below.heap_setCell _ _ _ _ (by simp; omega)).trans (h3.block k hk hne)⟩

theorem DeskAt.told {D : Nat} {L : List Int} {s : List UInt8} {w : World} {e : Ending} {w' : World} (h : DeskAt D L w) (ht : Tells s w e w') (_hD : D < w.heap.size) :
    e = .returned (.string ⟨s.toArray⟩) ∧ DeskAt D L w' ∧ w.grownBy w' (some D) :=
  ⟨ht.1, h.below ht.2, ht.2.os, ht.2.tape, ht.2.output, ht.2.size, fun k hk _ => ht.2.block k hk⟩

def hLin (zs : List Int) : Nat → List UInt8
  | 0 => [108, 105, 115, 116] ++ 32 :: spT zs
  | 1 => [104, 97, 108, 102]
  | _ => [116, 111, 116, 97, 108]
def hOut (zs : List Int) : Nat → List UInt8
  | 0 => [111, 107]
  | 1 => dgs (lr zs).toNat
  | _ => dgs (tot zs).toNat
def hRest (zs : List Int) : Nat → List UInt8
  | 0 => hLin zs 0 ++ 10 :: (hLin zs 1 ++ 10 :: (hLin zs 2 ++ 10 :: []))
  | 1 => hLin zs 1 ++ 10 :: (hLin zs 2 ++ 10 :: [])
  | 2 => hLin zs 2 ++ 10 :: []
  | _ => []
theorem spT_no10 : ∀ (zs : List Int), (10 : UInt8) ∉ spT zs
  | [] => by simp [spT]
  | [x] => fun h => by have := dgs_mem x.toNat 10 h; simp at this
  | x :: y :: r => fun h => by
    rw [spT_cons (by simp), List.mem_append, List.mem_cons] at h
    rcases h with h | h | h
    · have := dgs_mem x.toNat 10 h; simp at this
    · cases h
    · exact spT_no10 (y :: r) h

theorem Execute_half (zs : List Int) (w : World) (hz : inL zs = true) (h0 : 0 < zs.length) (ht : Pow10 w) :
    Calls Tryz.prog 8 #[.string ⟨(hRest zs 0).toArray⟩] w fun e w' => e = .returned (.string ⟨(toldTo (hOut zs) 3 ++ [110, 117, 109, 98, 101, 114, 115, 32] ++ dgs zs.length ++ [10]).toArray⟩) ∧ Below w.heap.size w w' := by
  have hzl := (inL_iff zs).1 hz
  have hle := spT_le zs fun x hx => by have := hzl.2 x hx; omega
  have htb := tot_bd hzl.2
  have hlb := lr_bd hzl.2
  have d1 := dgs_len (n := (lr zs).toNat) (by omega)
  have d2 := dgs_len (n := (tot zs).toNat) (by omega)
  refine Execute_lines 3 (hLin zs) (hOut zs) (hRest zs) zs.length w (fun k W => DeskAt w.heap.size (if k = 0 then [] else zs) W) ?_ rfl ?_ ?_ ?_ ?_ ?_ (by omega) ?_ ?_ ?_ ?_
  · intro k hk
    rcases k with _ | _ | _ | k
    · rfl
    · rfl
    · rfl
    · omega
  · intro k hk
    rcases k with _ | _ | _ | k
    · have := spT_no10 zs
      simp [hLin, this]
    · simp [hLin]
    · simp [hLin]
    · omega
  · simp [hRest, hLin]; omega
  · intro k hk
    rcases k with _ | _ | _ | _ | k
    · simp [hRest, hLin]; omega
    · simp [hRest, hLin]
    · simp [hRest, hLin]
    · simp [hRest]
    · omega
  · intro k hk
    rcases k with _ | _ | _ | k
    · simp [hOut]
    · simp [hOut]; omega
    · simp [hOut]; omega
    · omega
  · intro k hk
    rcases k with _ | _ | _ | _ | k
    · simp [toldTo]
    · simp [toldTo, hOut]
    · simp [toldTo, hOut]; omega
    · simp [toldTo, hOut]; omega
    · omega
  · intro W hb hB
    exact DeskAt.nil hb
  · intro k W W' hS ho _ _
    exact hS.keep ho
  · intro k hk W hB hsz hS
    have htW := ht.below hB
    rcases k with _ | _ | _ | k
    · obtain ⟨a, cap, h1, h2⟩ := hS
      refine (run_list w.heap.size zs _ W hz h0 h1).mono ?_
      rintro e w' ⟨rfl, a', cap', g1, g2, g3⟩
      exact ⟨rfl, ⟨a', cap', g1, g2.mono (by omega)⟩, g3⟩
    · have hS' : DeskAt w.heap.size zs W := hS
      obtain ⟨a, cap, h1, h2⟩ := hS
      exact (run_half w.heap.size a cap zs W hz h1 h2.ints htW).mono fun e w' h => hS'.told h (by omega)
    · have hS' : DeskAt w.heap.size zs W := hS
      obtain ⟨a, cap, h1, h2⟩ := hS
      exact (run_total w.heap.size a cap zs W hz h1 h2.ints htW).mono fun e w' h => hS'.told h (by omega)
    · omega
  · rintro W ⟨a, cap, h1, _⟩
    exact ⟨a, cap, h1⟩
end Go.Proofs.YtdpapalfafjncaaGreatDoor
