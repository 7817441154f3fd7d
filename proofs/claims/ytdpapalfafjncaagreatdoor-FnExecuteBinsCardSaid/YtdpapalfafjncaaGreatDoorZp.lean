/- The word bins of the script, the script that asks for bins, and the draw. Conditions: stated in each. -/
import Derived.Deep.RegionWith
import Derived.Test.YtdpapalfafjncaaGreatDoorZi
import Derived.Test.YtdpapalfafjncaaGreatDoorZn
import Derived.Test.YtdpapalfafjncaaGreatDoorZo
set_option linter.unusedVariables false
set_option linter.unusedSimpArgs false
set_option linter.unusedSectionVars false
namespace Go.Proofs.YtdpapalfafjncaaGreatDoor
open Go.RowKit Go.Shelf

set_option maxRecDepth 100000 in
set_option maxHeartbeats 1600000 in
theorem one_any (ln wd : ByteArray) (an : Option Addr) (cn : Nat) (n : Int) (w : World) (hN : IntsAt w an [n]) :
    Calls Tryz.prog 111 #[.agg #[.string ln, .string wd, .slice an 1 cn]] w fun e w' => e = .returned (.int .i64 n) ∧ Below w.heap.size w w' := by
  have hB : Below w.heap.size w (w.alloc (.cells #[.string ln, .string wd, .slice an 1 cn] 72)) := (Below.refl _ w).alloc (Nat.le_refl _) _
  obtain ⟨g, off, rfl, hg, hc⟩ := (hN.below hB).at (by simp)
  have c0 := hc 0 (by simp)
  simp at c0
  clear hc
  go_enter Tryz.func111, Tryz.ntmps111
  go_wp2_with fail
  go_ret
  exact ⟨rfl, hB⟩

theorem few_unique {Q : Nat → Prop} {c k k' : Nat} (h : IsFew Q c k) (h' : IsFew Q c k') : k = k' := Nat.le_antisymm (h.2 _ h'.1) (h'.2 _ h.1)
theorem BinLeast_told (a : Option Addr) (cap : Nat) (zs : List Int) (n : Int) (k : Nat) (w : World) (ht : toldB zs n = true) (hk : IsFew (roomP zs n) (2 ^ zs.length - 1) k) (hI : IntsAt w a zs) :
    Calls Tryz.prog 13 #[.slice a zs.length cap, .int .i64 n] w fun e w' => e = .returned (.tuple #[.int .i64 k, .bool true]) ∧ Below w.heap.size w w' := by
  have hz := (inL_iff zs).1 (toldB_is ht).1
  refine (BinLeast_any a cap zs n w (by omega) hI).mono ?_
  rintro e w' ⟨r, ok, rfl, h, hB⟩
  rcases h with ⟨rfl, _, k', rfl, hk'⟩ | ⟨_, hf, _⟩
  · rw [few_unique hk' hk]; exact ⟨rfl, hB⟩
  · rw [ht] at hf; cases hf

set_option maxRecDepth 100000 in
set_option maxHeartbeats 3200000 in
theorem bins_any (D : Nat) (ln wd : ByteArray) (a an : Option Addr) (cap cn : Nat) (zs : List Int) (n : Int) (k : Nat) (w : World) (ht : toldB zs n = true) (hk : IsFew (roomP zs n) (2 ^ zs.length - 1) k) (hk10 : k ≤ 10) (hD : Boxed w D 41 (.slice a zs.length cap)) (hI : IntsAt w a zs) (hN : IntsAt w an [n]) (hp : Pow10 w) :
    Calls Tryz.prog 73 #[.pointer (some ⟨D, 0, none⟩), .agg #[.string ln, .string wd, .slice an 1 cn]] w (Tells (dgs k) w) := by
  obtain ⟨W0, hW0⟩ : ∃ W0, w.alloc (.cells #[.string ln, .string wd, .slice an 1 cn] 72) = W0 := ⟨_, rfl⟩
  have hB : Below w.heap.size w W0 := by rw [← hW0]; exact (Below.refl _ w).alloc (Nat.le_refl _) _
  have HON := Lib.hid (fun W (h : Below w.heap.size w W) => one_any ln wd an cn n W (hN.below h))
  have HBL := Lib.hid (fun W (h : Below w.heap.size w W) => BinLeast_told a cap zs n k W ht hk (hI.below h))
  have HTN := Lib.hid (fun W (h : Below w.heap.size w W) => tellNumber_any k W (by omega) (hp.below h))
  have HDC := Lib.hid (fun W (h : Below w.heap.size w W) => (hD.kb2 h).cell)
  have HB := Lib.hid hB
  have c0 := (hD.kb2 hB).cell
  have e0 : W0.heap[w.heap.size]? = some (.cells #[.string ln, .string wd, .slice an 1 cn] 72 (0, 0)) := by rw [← hW0]; exact World.alloc_heap_new w _
  have d0 : W0.cell? ⟨w.heap.size, 0, none⟩ = some (.string ln) := by simp [World.cell?, e0]
  have d1 : W0.cell? ⟨w.heap.size, 1, none⟩ = some (.string wd) := by simp [World.cell?, e0]
  have d2 : W0.cell? ⟨w.heap.size, 2, none⟩ = some (.slice an 1 cn) := by simp [World.cell?, e0]
  have HW := Lib.hid hW0
  clear ht hk hI hN hp hD hB hW0 e0
  go_enter Tryz.func73, Tryz.ntmps73
  go_wp2_with fail
  rw [HW.out]
  go_region_with (first
    | (go_at_call 111; first
        | (refine (HON.out W0 HB.out).mono ?_; rintro e w2 ⟨rfl, hB2⟩; have hB2' := HB.out.trans (hB2.mono HB.out.size); have c0' := HDC.out w2 hB2'; clear hB2)
        | (refine (HON.out W0.drew HB.out.drew).mono ?_; rintro e w2 ⟨rfl, hB2⟩; have hB2' := HB.out.drew.trans (hB2.mono HB.out.size); have c0' := HDC.out w2 hB2'; clear hB2))
    | (go_at_call 13; first
        | (refine (HBL.out w2 hB2').mono ?_; rintro e w3 ⟨rfl, hB3⟩; have hB3' := hB2'.trans (hB3.mono hB2'.size); clear hB3)
        | (refine (HBL.out w2.drew hB2'.drew).mono ?_; rintro e w3 ⟨rfl, hB3⟩; have hB3' := hB2'.drew.trans (hB3.mono hB2'.size); clear hB3))
    | (go_at_call 96; first
        | (refine (HTN.out w3 hB3').mono ?_; rintro e w4 ⟨rfl, hB4⟩; have hB4' := hB3'.trans (hB4.mono hB3'.size))
        | (refine (HTN.out w3.drew hB3'.drew).mono ?_; rintro e w4 ⟨rfl, hB4⟩; have hB4' := hB3'.drew.trans (hB4.mono hB3'.size))))
  all_goals
    go_wp2
    go_ret
    exact ⟨rfl, by first | exact hB4' | exact hB4'.drew⟩

theorem run_bins (D : Nat) (a : Option Addr) (cap : Nat) (zs : List Int) (n : Int) (k : Nat) (w : World) (ht : toldB zs n = true) (hk : IsFew (roomP zs n) (2 ^ zs.length - 1) k) (hk10 : k ≤ 10) (hD : Boxed w D 41 (.slice a zs.length cap)) (hI : IntsAt w a zs) (hp : Pow10 w) :
    Calls Tryz.prog 24 #[.pointer (some ⟨D, 0, none⟩), .string ⟨([98, 105, 110, 115] ++ 32 :: spT [n]).toArray⟩] w (Tells (dgs k) w) := by
  obtain ⟨_, hn1, hn2, _⟩ := toldB_is ht
  have hlt := hD.lt
  have hle := spT_le [n] fun x hx => by rw [List.mem_singleton.1 hx]; omega
  refine run_rest D 1 [98, 105, 110, 115] (spT [n]) (dgs k) 73 w (by decide) (by simp at hle ⊢; omega) (enters_of Tryz.func73 (by kernel_rfl) rfl)
    (fun a cap W => IntsAt W a [n]) (fun w' => Below w.heap.size w w') restWord_bins ?_ ?_ ?_
  · intro W hB hlt
    refine (orderOf_any _ _ [n] (fun x hx => by rw [List.mem_singleton.1 hx]; omega) (by simp) (by simp) W).mono ?_
    rintro e w' ⟨a, cap, rfl, h1, h2⟩
    exact ⟨a, cap, rfl, h1.ints, h2⟩
  · intro W an cn hB hO hltW
    refine (bins_any D _ _ a an cap cn zs n k W ht hk hk10 (hD.kb2 hB) (hI.below hB) hO (hp.below hB)).mono ?_
    rintro e w' ⟨rfl, hB1⟩
    exact ⟨rfl, hB.trans (hB1.mono hB.size), hB1.block _ hltW⟩
  · intro w' u h
    exact h.setCell (p := ⟨w.heap.size, 0, none⟩) (Nat.le_refl _) _

def bLin (zs : List Int) (n : Int) : Nat → List UInt8
  | 0 => [108, 105, 115, 116] ++ 32 :: spT zs
  | _ => [98, 105, 110, 115] ++ 32 :: spT [n]
def bOut (k : Nat) : Nat → List UInt8
  | 0 => [111, 107]
  | _ => dgs k
def bRest (zs : List Int) (n : Int) : Nat → List UInt8
  | 0 => bLin zs n 0 ++ 10 :: (bLin zs n 1 ++ 10 :: [])
  | 1 => bLin zs n 1 ++ 10 :: []
  | _ => []

theorem Execute_bins (zs : List Int) (n : Int) (k : Nat) (w : World) (ht : toldB zs n = true) (hk : IsFew (roomP zs n) (2 ^ zs.length - 1) k) (h0 : 0 < zs.length) (hp : Pow10 w) :
    Calls Tryz.prog 8 #[.string ⟨(bRest zs n 0).toArray⟩] w fun e w' => e = .returned (.string ⟨(toldTo (bOut k) 2 ++ [110, 117, 109, 98, 101, 114, 115, 32] ++ dgs zs.length ++ [10]).toArray⟩) ∧ Below w.heap.size w w' := by
  obtain ⟨hz, hn1, hn2, hle9⟩ := toldB_is ht
  have hzl := (inL_iff zs).1 hz
  have hle := spT_le zs fun x hx => by have := hzl.2 x hx; omega
  have hle2 := spT_le [n] fun x hx => by rw [List.mem_singleton.1 hx]; omega
  have hpw := Nat.two_pow_pos zs.length
  have hk10 : k ≤ 10 := Nat.le_trans (few_le hle9 (by omega) hk) hzl.1
  have d1 := dgs_len (n := k) (by omega)
  simp only [List.length_singleton] at hle2
  refine Execute_lines 2 (bLin zs n) (bOut k) (bRest zs n) zs.length w (fun j W => DeskAt w.heap.size (if j = 0 then [] else zs) W) ?_ rfl ?_ ?_ ?_ ?_ ?_ (by omega) ?_ ?_ ?_ ?_
  · intro j hj
    rcases j with _ | _ | j
    · rfl
    · rfl
    · omega
  · intro j hj
    rcases j with _ | _ | j
    · have := spT_no10 zs
      simp [bLin, this]
    · have := spT_no10 [n]
      simp [bLin, this]
    · omega
  · simp [bRest, bLin]; omega
  · intro j hj
    rcases j with _ | _ | _ | j
    · simp [bRest, bLin]; omega
    · simp [bRest, bLin]; omega
    · simp [bRest]
    · omega
  · intro j hj
    rcases j with _ | _ | j
    · simp [bOut]
    · simp [bOut]; omega
    · omega
  · intro j hj
    rcases j with _ | _ | _ | j
    · simp [toldTo]
    · simp [toldTo, bOut]
    · simp [toldTo, bOut]; omega
    · omega
  · intro W hb hB
    exact DeskAt.nil hb
  · intro j W W' hS ho _ _
    exact hS.keep ho
  · intro j hj W hB hsz hS
    have htW := hp.below hB
    rcases j with _ | _ | j
    · obtain ⟨a, cap, h1, h2⟩ := hS
      refine (run_list w.heap.size zs _ W hz h0 h1).mono ?_
      rintro e w' ⟨rfl, a', cap', g1, g2, g3⟩
      exact ⟨rfl, ⟨a', cap', g1, g2.mono (by omega)⟩, g3⟩
    · have hS' : DeskAt w.heap.size zs W := hS
      obtain ⟨a, cap, h1, h2⟩ := hS
      exact (run_bins w.heap.size a cap zs n k W ht hk hk10 h1 h2.ints htW).mono fun e w' h => hS'.told h (by omega)
    · omega
  · rintro W ⟨a, cap, h1, _⟩
    exact ⟨a, cap, h1⟩

/-- a list and a size are drawn -/
def LeastDrawn (w : World) (e : Ending) (w' : World) : Prop :=
  ∃ ad cap zs q, e = .returned (.tuple #[.slice ad zs.length cap, .int .i64 q]) ∧ zs.length ≤ 9 ∧ okDrawn zs ∧ 0 ≤ q ∧ q ≤ 101 ∧ IntsAt w' ad zs ∧ Below w.heap.size w w'
set_option maxRecDepth 100000 in
set_option maxHeartbeats 1600000 in
theorem DrawBinLeast_any (a : Option Addr) (len cap : Nat) (w : World) (hl : len ≤ 1048576) (hcap : len ≤ cap) (hb : BytesAt w w.heap.size a len) :
    Calls Tryz.prog 12 #[.slice a len cap] w (LeastDrawn w) := by
  go_enter Tryz.func12, Tryz.ntmps12
  go_wp2_with fail
  refine (l6Open_any a len cap w hl hcap hb).mono ?_
  rintro e w1 ⟨l, c, rfl, hl2, hR, hB⟩
  go_wp2_with fail
  refine (l91Bins_any w.heap.size l c a w1 hl2 hR).mono ?_
  rintro e w2 ⟨v, zs, q, p, rfl, hD, hz1, hz2, hq0, hq1, hp0, hp1⟩
  obtain ⟨ad, cp, rfl, hI, _⟩ := hD.2.1.shape
  have hB3 := hB.trans hD.2.2.1
  clear hR hD
  go_wp2
  go_ret2
  exact ⟨ad, cp, zs, q, rfl, hz1, hz2, hq0, hq1, hI, hB3⟩
end Go.Proofs.YtdpapalfafjncaaGreatDoor
