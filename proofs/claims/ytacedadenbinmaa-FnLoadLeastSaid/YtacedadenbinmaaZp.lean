/- Tables of least spans over the parts of choices. Conditions: the loads are not negative. How many ways have a span of at most t, reckoned with the ways beyond t left out early. Conditions: the loads are not negative. How many ways are best: at least one, at most all, an even number for two machines. Conditions: the loads are not negative. l5Least and LoadLeast of the reference. Conditions: at most eight good loads; none for LoadLeast. l5Even of the reference. Conditions: at most six good loads, at most five sums. -/
import Derived.Test.YtacedadenbinmaaZn
import Derived.Test.YtacedadenbinmaaZo
import Derived.BigRegion
set_option linter.unusedVariables false
set_option linter.unusedSimpArgs false
set_option linter.unusedSectionVars false
namespace Go.Proofs.Ytacedadenbinmaa

/-- the table for j + 1 machines -/
def TabL (zs : List Int) (j P : Nat) (L : List Int) : Prop := L.length = P ∧ ∀ c, c < P → IsBst zs j c (L[c]?.getD 0)
/-- the table for one machine more, done up to s -/
def TabN (zs : List Int) (j P : Nat) (B L : List Int) (s : Nat) : Prop := L.length = P ∧ (∀ c, c < s → c < P → IsBst zs (j + 1) c (L[c]?.getD 0)) ∧ ∀ c, s ≤ c → c < P → L[c]?.getD 0 = B[c]?.getD 0
theorem tabN_start {zs : List Int} (hz : ∀ x ∈ zs, 0 ≤ x) {j P : Nat} {B : List Int} (h : TabL zs j P B) : TabN zs j P B B 1 := by
  refine ⟨h.1, fun c h1 h2 => ?_, fun _ _ _ => rfl⟩
  obtain rfl : c = 0 := by omega
  exact seenL_end hz (seenL_start hz (h.2 0 h2))
theorem tabN_end {zs : List Int} {j P : Nat} {B L : List Int} (h : TabN zs j P B L P) : TabL zs (j + 1) P L := ⟨h.1, fun c hc => h.2.1 c hc hc⟩
/-- the table while place s is being done -/
def TabM (zs : List Int) (j P : Nat) (B L : List Int) (s : Nat) (v : Int) : Prop := L.length = P ∧ (∀ c, c < s → c < P → IsBst zs (j + 1) c (L[c]?.getD 0)) ∧ L[s]?.getD 0 = v ∧ ∀ c, s < c → c < P → L[c]?.getD 0 = B[c]?.getD 0
theorem tabM_start {zs : List Int} {j P s : Nat} {B L : List Int} (h : TabN zs j P B L s) (hs : s < P) : TabM zs j P B L s (B[s]?.getD 0) := ⟨h.1, h.2.1, h.2.2 s (Nat.le_refl _) hs, fun c h1 h2 => h.2.2 c (by omega) h2⟩
theorem tabM_put {zs : List Int} {j P s : Nat} {B L : List Int} {v : Int} (h : TabM zs j P B L s v) (hs : s < P) (x : Int) : TabM zs j P B (L.set s x) s x := by
  refine ⟨by rw [List.length_set]; exact h.1, fun c h1 h2 => ?_, ?_, fun c h1 h2 => ?_⟩
  · rw [List.getElem?_set_ne (by omega)]; exact h.2.1 c h1 h2
  · rw [List.getElem?_set_self (by rw [h.1]; exact hs)]; rfl
  · rw [List.getElem?_set_ne (by omega)]; exact h.2.2.2 c h1 h2
theorem tabM_end {zs : List Int} (hz : ∀ x ∈ zs, 0 ≤ x) {j P s : Nat} {B L : List Int} {v : Int} (h : TabM zs j P B L s v) (hv : SeenL zs j s 0 v) : TabN zs j P B L (s + 1) := by
  refine ⟨h.1, fun c h1 h2 => ?_, fun c h1 h2 => h.2.2.2 c (by omega) h2⟩
  by_cases e : c = s
  · subst e
    rw [h.2.2.1]
    exact seenL_end hz hv
  · exact h.2.1 c (by omega) h2
def sumsL (zs : List Int) (k : Nat) : List Int := (List.range k).map (csum zs)
theorem sumsL_snoc (zs : List Int) (k : Nat) : sumsL zs (k + 1) = sumsL zs k ++ [csum zs k] := by simp [sumsL, List.range_succ]
theorem sumsL_length (zs : List Int) (k : Nat) : (sumsL zs k).length = k := by simp [sumsL]
theorem sumsL_tab (zs : List Int) (P : Nat) : TabL zs 0 P (sumsL zs P) := ⟨sumsL_length zs P, fun c hc => by simp [sumsL, hc]; exact bst_zero zs c⟩
theorem tab_opt {zs : List Int} (hz : ∀ x ∈ zs, 0 ≤ x) {j P : Nat} {L : List Int} (h : TabL zs j P L) (hP : 2 ^ zs.length = P) : L[P - 1]?.getD 0 = opt zs (j + 1) := by
  have := Nat.two_pow_pos zs.length
  exact bst_opt hz (by rw [hP]; exact h.2 (P - 1) (by omega))
end Go.Proofs.Ytacedadenbinmaa
namespace Go.Proofs.Ytacedadenbinmaa

/-- the sum of the first numbers of a row -/
def sumK (f : Nat → Int) : Nat → Int
  | 0 => 0
  | k + 1 => sumK f k + f k
theorem sumK_congr {f g : Nat → Int} : ∀ {n : Nat}, (∀ k, k < n → f k = g k) → sumK f n = sumK g n
  | 0, _ => rfl
  | n + 1, h => by rw [sumK, sumK, sumK_congr fun k hk => h k (by omega), h n (by omega)]
theorem sumK_bd {f : Nat → Int} {B : Int} : ∀ {n : Nat}, (∀ k, k < n → 0 ≤ f k ∧ f k ≤ B) → 0 ≤ sumK f n ∧ sumK f n ≤ n * B
  | 0, _ => by simp [sumK]
  | n + 1, h => by
      have h1 := sumK_bd (n := n) fun k hk => h k (by omega)
      have h2 := h n (by omega)
      have e : ((n + 1 : Nat) : Int) * B = n * B + B := by rw [Int.natCast_add, Int.add_mul]; simp
      rw [e, sumK]
      omega
def evL (t : Int) : List Int → List Int → Int
  | [], _ => 1
  | z :: zs, ss => sumK (fun k => if ss[k]?.getD 0 + z ≤ t then evL t zs (putAt ss k z) else 0) ss.length
/-- the row that evL sums up -/
def evF (t z : Int) (zs ss : List Int) (k : Nat) : Int := if ss[k]?.getD 0 + z ≤ t then evL t zs (putAt ss k z) else 0
theorem evL_cons (t z : Int) (zs ss : List Int) : evL t (z :: zs) ss = sumK (evF t z zs ss) ss.length := rfl
theorem evL_bd (t : Int) : ∀ (zs ss : List Int), 0 ≤ evL t zs ss ∧ evL t zs ss ≤ (ss.length : Int) ^ zs.length
  | [], _ => by simp [evL]
  | z :: zs, ss => by
      have h := sumK_bd (f := evF t z zs ss) (B := (ss.length : Int) ^ zs.length) (n := ss.length) fun k _ => by
        have hb := evL_bd t zs (putAt ss k z)
        rw [putAt_length] at hb
        unfold evF
        split
        · exact hb
        · omega
      rw [evL_cons, List.length_cons, Int.pow_succ, Int.mul_comm]
      exact h
theorem evF_bd (t z : Int) (zs ss : List Int) (k : Nat) : 0 ≤ evF t z zs ss k ∧ evF t z zs ss k ≤ (ss.length : Int) ^ zs.length := by
  have hb := evL_bd t zs (putAt ss k z)
  rw [putAt_length] at hb
  unfold evF
  split
  · exact hb
  · omega
theorem foldl_le {t : Int} : ∀ {zs : List Int} {m : Int}, zs.foldl max m ≤ t ↔ m ≤ t ∧ ∀ x ∈ zs, x ≤ t
  | [], m => by simp
  | y :: ys, m => by
      rw [List.foldl_cons, foldl_le]
      simp only [List.mem_cons, forall_eq_or_imp]
      constructor
      · rintro ⟨h1, h2⟩; exact ⟨by omega, by omega, h2⟩
      · rintro ⟨h1, h2, h3⟩; exact ⟨by omega, h3⟩
theorem spans_ge : ∀ (zs ss : List Int), (∀ x ∈ zs, 0 ≤ x) → ∀ s ∈ spans zs ss, ∀ i, i < ss.length → ss[i]?.getD 0 ≤ s
  | [], ss, _, s, hs, i, hi => by
      simp only [spans, List.mem_singleton] at hs
      subst hs
      have := (foldl_max_ge ss 0).2 (ss[i]) (List.getElem_mem hi)
      rw [List.getElem?_eq_getElem hi]
      exact this
  | x :: xs, ss, hz, s, hs, i, hi => by
      simp only [spans, List.mem_flatMap, List.mem_range] at hs
      obtain ⟨k, hk, hs⟩ := hs
      have h := spans_ge xs (putAt ss k x) (fun y hy => hz y (List.mem_cons_of_mem _ hy)) s hs i (by rw [putAt_length]; exact hi)
      have h0 := hz x List.mem_cons_self
      by_cases e : k = i
      · subst e
        rw [putAt, List.getElem?_set_self hk] at h
        simp only [Option.getD_some] at h
        omega
      · rw [putAt, List.getElem?_set_ne e] at h
        exact h
theorem countP_flatR (p : Int → Bool) (f : Nat → List Int) : ∀ n, ((((List.range n).flatMap f).countP p : Nat) : Int) = sumK (fun k => ((f k).countP p : Nat)) n
  | 0 => rfl
  | n + 1 => by rw [List.range_succ, List.flatMap_append, List.countP_append, Int.natCast_add, countP_flatR p f n, sumK]; simp
theorem ev_cnt (t : Int) : ∀ (zs ss : List Int), (∀ x ∈ zs, 0 ≤ x) → gre ss ≤ t → evL t zs ss = (((spans zs ss).countP (fun s => decide (s ≤ t)) : Nat) : Int)
  | [], ss, _, h => by simp [evL, spans, h]
  | z :: zs, ss, hz, h => by
      have hz' : ∀ x ∈ zs, 0 ≤ x := fun y hy => hz y (List.mem_cons_of_mem _ hy)
      rw [evL_cons, spans, countP_flatR]
      refine sumK_congr fun k hk => ?_
      have h2 := foldl_le.1 h
      unfold evF
      split
      · rename_i hle
        rw [ev_cnt t zs (putAt ss k z) hz' (foldl_le.2 ⟨h2.1, fun y hy => ?_⟩)]
        rcases List.mem_or_eq_of_mem_set hy with hy | rfl
        · exact h2.2 y hy
        · exact hle
      · rename_i hgt
        rw [eq_comm, Int.natCast_eq_zero, List.countP_eq_zero]
        intro s hs
        have h3 := spans_ge zs _ hz' s hs k (by rw [putAt_length]; exact hk)
        rw [putAt, List.getElem?_set_self hk] at h3
        simp only [Option.getD_some] at h3
        simp only [decide_eq_true_eq]
        omega
theorem ev_opt {zs : List Int} (hz : ∀ x ∈ zs, 0 ≤ x) {m : Nat} (hm : 1 ≤ m) : evL (opt zs m) zs (List.replicate m 0) = (tal (spans zs (List.replicate m 0))).2 := by
  have hmem := opt_mem zs (m := m) (by omega)
  have h0 : 0 ≤ opt zs m := by
    have := spans_ge zs _ hz _ hmem 0 (by rw [List.length_replicate]; omega)
    simpa [show 0 < m by omega] using this
  rw [ev_cnt _ _ _ hz (foldl_le.2 ⟨h0, fun y hy => by rw [List.eq_of_mem_replicate hy]; exact h0⟩)]
  simp only [tal, cnt1]
  rw [show mn (spans zs (List.replicate m 0)) = opt zs m from rfl]
  congr 1
  refine List.countP_congr fun s hs => ?_
  have := mn_le hs
  have e : mn (spans zs (List.replicate m 0)) = opt zs m := rfl
  rw [e] at this
  simp only [decide_eq_true_eq, beq_iff_eq]
  omega
end Go.Proofs.Ytacedadenbinmaa
namespace Go.Proofs.Ytacedadenbinmaa

theorem spans2 (x : Int) (xs : List Int) (a b : Int) : spans (x :: xs) [a, b] = spans xs [a + x, b] ++ spans xs [a, b + x] := by simp [spans, putAt, List.range_succ]
theorem swap2 (p : Int → Bool) : ∀ (zs : List Int) (a b : Int), (spans zs [a, b]).countP p = (spans zs [b, a]).countP p
  | [], a, b => by
      have e : gre [a, b] = gre [b, a] := by
        show max (max 0 a) b = max (max 0 b) a
        omega
      simp only [spans, e]
  | x :: xs, a, b => by rw [spans2, spans2, List.countP_append, List.countP_append, swap2 p xs (a + x) b, swap2 p xs a (b + x), Nat.add_comm]
theorem even2 {zs : List Int} (h : zs ≠ []) : (tal (spans zs [0, 0])).2 % 2 = 0 := by
  obtain ⟨x, xs, rfl⟩ := List.exists_cons_of_ne_nil h
  simp only [tal, cnt1]
  generalize mn (spans (x :: xs) [0, 0]) = t
  rw [spans2, List.countP_append, swap2 _ xs (0 + x) 0]
  omega
theorem best_bd {zs : List Int} (hz : ∀ x ∈ zs, 0 ≤ x) {m : Nat} (hm : 1 ≤ m) : 1 ≤ (tal (spans zs (List.replicate m 0))).2 ∧ (tal (spans zs (List.replicate m 0))).2 ≤ (m : Int) ^ zs.length := by
  refine ⟨?_, ?_⟩
  · have := cnt1_pos (mn_mem (spans_ne zs (List.replicate m 0) (by simpa using (show 0 < m by omega))))
    simp only [tal]
    omega
  · rw [← ev_opt hz hm]
    have := (evL_bd (opt zs m) zs (List.replicate m 0)).2
    rwa [List.length_replicate] at this
end Go.Proofs.Ytacedadenbinmaa
namespace Go.Proofs.Ytacedadenbinmaa
open Go.RowKit

set_option maxRecDepth 100000 in
set_option maxHeartbeats 6400000 in
theorem l5Least_any (a : Option Addr) (cap : Nat) (zs : List Int) (m : Nat) (w : World) (hl : zs.length ≤ 8) (hg : good zs) (hm : 1 ≤ m ∧ m ≤ 5) (hI : IntsAt w a zs) :
    Calls Try.prog 38 #[.slice a zs.length cap, .int .i64 m] w fun e w' => e = .returned (.int .i64 (opt zs m)) ∧ Below w.heap.size w w' := by
  obtain ⟨P, hP⟩ : ∃ P : Nat, 2 ^ zs.length = P := ⟨_, rfl⟩
  have hpp : (2 : Int) ^ zs.length = (P : Int) := by
    have : ((2 ^ zs.length : Nat) : Int) = 2 ^ zs.length := by simp
    rw [← hP]; exact this.symm
  have hPb : 1 ≤ P ∧ P ≤ 256 := by
    have h1 : 2 ^ zs.length ≤ 2 ^ 8 := Nat.pow_le_pow_right (by omega) hl
    have h2 := Nat.two_pow_pos zs.length
    omega
  have HPF : Hid (2 ^ zs.length = P) := hP
  have hnn := good_nn hg
  have HNN := Lib.hid hnn
  clear hP hnn
  go_enter Try.func38, Try.ntmps38
  go_wp2_with (go_at_call 62; refine (l1All_any a zs.length cap _ (by omega)).mono ?_; rw [hpp]; rintro e w' ⟨rfl, rfl⟩)
  have hB0 : Below w.heap.size w (w.alloc (.cells #[] 3)) := (Below.refl _ _).alloc (Nat.le_refl _) _
  have hA0 : OwnI (w.alloc (.cells #[] 3)) w.heap.size (.slice (some ⟨w.heap.size, 0, none⟩) 0 0) (sumsL zs 0) := World.ownsRow_lit w #[] 0 (Nat.le_refl _) (by unfold maxLen; omega) (by simp)
  obtain ⟨g1, hg1⟩ : ∃ g, w.heap.size = g := ⟨_, rfl⟩
  rw [hg1] at hA0 hB0 ⊢
  go_loopw [6, 7] (fun v i wr => ∃ k : Nat, k ≤ P ∧ i = .int .i64 k ∧ OwnI wr g1 v (sumsL zs k) ∧ Below g1 w wr) (fun _ i _ => P - (intOf i).toNat)
  case atStart => exact ⟨0, Nat.zero_le _, rfl, hA0, hB0⟩
  case round =>
    obtain ⟨k, hk, rfl, hO, hB⟩ := hrel
    clear hA0 hB0
    by_cases hlt : k < P
    · have hIr := hI.below (w' := wr) (by rw [hg1]; exact hB)
      go_wp2_with (first | (go_at_call 63; with_reducible refine (l1Sum_any k a cap zs _ (by omega) (by omega) hg hIr).mono ?_; rintro e w' ⟨rfl, m1, rfl⟩) | (at_builtin; refine append1At _ rfl _ _ rfl g1 u6 (sumsL zs k) (csum zs k) ?hs ?hx ?hown ?hlen ?hbase ?hk))
      case hs => rfl
      case hx => rfl
      case hown => exact hO.dr m1
      case hlen => rw [sumsL_length]; omega
      case hbase => rw [← hg1]; exact (belowDr hB m1).size
      case hk =>
        intro v' w' hO' hG' hat
        rw [← sumsL_snoc] at hO'
        have hB' := (belowDr hB m1).grown hG' (by rw [← hg1]; exact (belowDr hB m1).size) (fun j hj => (hO.lt j hj).1)
        go_wp2_with fail
        go_roundw
        case rel => exact ⟨k + 1, by omega, by go_num, hO', hB'⟩
        case measure => simp [intOf]; omega
    · obtain rfl : P = k := by omega
      have HT0 := Lib.hid (sumsL_tab zs P)
      have hsz := sumsL_length zs P
      generalize sumsL zs P = L0 at hO HT0 hsz
      go_wp2
      go_loopw [6, 8] (fun v i wr => ∃ (k : Nat) (L : List Int), 2 ≤ k ∧ k ≤ m + 1 ∧ i = .int .i64 k ∧ Hid (TabL zs (k - 2) P L) ∧ OwnI wr g1 v L ∧ Below g1 w wr) (fun _ i _ => m + 1 - (intOf i).toNat)
      case atStart => exact ⟨2, L0, by omega, by omega, rfl, HT0, hO, hB⟩
      case round =>
        clear hO HT0 hB hsz hk hlt
        obtain ⟨k, L, hk2, hk, rfl, HT, hO, hB⟩ := hrel
        have hL := HT.out.1
        obtain ⟨b6, c6, rfl, hb6, hgl6, hcell6⟩ := hO.at (by omega)
        by_cases hkm : k ≤ m
        · have hlt0 : wr.heap.size ≠ b6 := by omega
          have hlt1 : wr.heap.size + 1 ≠ b6 := by omega
          have HII := Lib.hid (hO.alloc (.cells #[] 3))
          rw [hL] at hO HII ⊢
          have HO := Lib.hid hO
          have hsz : g1 ≤ wr.heap.size := by rw [← hg1]; exact hB.size
          have HB := Lib.hid (hB.alloc hsz (.cells #[] 3))
          have hA : OwnI (wr.alloc (.cells #[] 3)) g1 (.slice (some ⟨wr.heap.size, 0, none⟩) 0 0) [] := World.ownsRow_lit wr #[] 0 hsz (by unfold maxLen; omega) (by simp)
          clear hcell6 hO hB hb6 hgl6
          go_wp2_with (at_builtin; refine appendSl _ rfl _ _ rfl g1 (.slice (some ⟨wr.heap.size, 0, none⟩) 0 0) [] L ⟨b6, 0, none⟩ P c6 rfl rfl hL hA (by simp) (by omega) (by have h := HII.out.ints; exact h) (by simp; omega) ?_; intro v' w' hO' hG' hat; rw [List.nil_append] at hO')
          have hv' : v'.ownBlock ≠ some b6 := by
            rcases hat with h | h
            · rw [h]; simpa [Value.ownBlock] using hlt0
            · rw [h]; simpa using hlt1
          have hOb := HII.out.kept hG' (.inr (by simp only [Value.ownBlock, ne_eq, Option.some.injEq]; exact fun e => hlt0 e.symm))
          have hB := HB.out.grown hG' (by simp; omega) (fun j hj => by simp only [Value.ownBlock, Option.some.injEq] at hj; omega)
          clear hG' hat HII HO HB hlt0 hlt1 hA hsz
          obtain ⟨b9, c9, rfl, _, _, _⟩ := hO'.at (by omega)
          rw [hL] at hO' ⊢
          have hne : b9 ≠ b6 := fun e => hv' (by rw [e]; rfl)
          have HST := Lib.hid (tabN_start HNN.out HT.out)
          clear hv'
          go_loopw [10] (fun i wi => ∃ (c : Nat) (T : List Int), 1 ≤ c ∧ c ≤ P ∧ i = .int .i64 c ∧ Hid (TabN zs (k - 2) P L T c) ∧ OwnI wi g1 (.slice (some ⟨b9, 0, none⟩) P c9) T ∧ OwnI wi g1 (.slice (some ⟨b6, 0, none⟩) P c6) L ∧ Below g1 w wi) (fun i _ => P - (intOf i).toNat)
          case atStart => exact ⟨1, L, by omega, by omega, rfl, HST, hO', hOb, hB⟩
          case round =>
            clear hO' hOb hB HST
            obtain ⟨c, T, hc1, hc, rfl, HTN, hT, hOb, hB⟩ := hrel
            by_cases hcP : c < P
            · have HTM := Lib.hid (tabM_start HTN.out hcP)
              have HSS := Lib.hid (seenL_start HNN.out (HT.out.2 c hcP))
              go_wp2
              go_loopw [11] (fun i wi => ∃ (p : Nat) (v : Int) (T : List Int), p ≤ c ∧ i = .int .i64 p ∧ Hid (TabM zs (k - 2) P L T c v) ∧ Hid (Sub p c) ∧ Hid (SeenL zs (k - 2) c p v) ∧ OwnI wi g1 (.slice (some ⟨b9, 0, none⟩) P c9) T ∧ OwnI wi g1 (.slice (some ⟨b6, 0, none⟩) P c6) L ∧ Below g1 w wi) (fun i _ => (intOf i).toNat)
              case atStart => exact ⟨c, _, T, by omega, rfl, HTM, Lib.hid (Sub.refl _), HSS, hT, hOb, hB⟩
              case round =>
                clear hT hOb hB HTM HSS HTN
                obtain ⟨p, v, T, hp, rfl, HTM, HSub, HSeen, hT, hOb, hB⟩ := hrel
                by_cases hp0 : 0 < p
                · have hIr := hI.below (by rw [hg1]; exact hB)
                  have hlt2 := pred_lt p c hp0
                  have HS2 := Lib.hid (pred_sub p c)
                  have HA : Hid (bits .and .i64 ((p : Int) - 1) (c : Int) = (((p - 1) &&& c : Nat) : Int)) := by
                    show bits .and .i64 ((p : Int) - 1) (c : Int) = _
                    rw [show (p : Int) - 1 = ((p - 1 : Nat) : Int) by omega, i64_and _ _ (by omega) (by omega)]
                  obtain ⟨d, hd⟩ : ∃ d, c - p = d := ⟨_, rfl⟩
                  have hdc : d < c := by omega
                  have han : bits .andNot .i64 (c : Int) (p : Int) = (d : Int) := by
                    rw [i64_andNot _ _ (by omega) (by omega), andNot_sub HSub.out (by omega), hd]
                  have HN : Hid (SeenL zs (k - 2) c ((p - 1) &&& c) (min v (max (csum zs p) (L[d]?.getD 0)))) := seenL_hit HSeen.out (by omega) HSub.out (by rw [hd]; exact HT.out.2 d (by omega))
                  have HTP : Hid (∀ x : Int, TabM zs (k - 2) P L (T.set c x) c x) := fun x => tabM_put HTM.out hcP x
                  have HTL : Hid (T.length = P) := HTM.out.1
                  obtain ⟨g', cp', he, _, hgl9, hcell9⟩ := hT.at (by have := HTL.out; omega)
                  simp only [Value.slice.injEq, Option.some.injEq, Addr.mk.injEq, and_true] at he
                  obtain ⟨rfl, hq1, hq2⟩ := he
                  clear hq1 hq2
                  obtain ⟨g', cp', he, _, hgl6, hcell6⟩ := hOb.at (by omega)
                  simp only [Value.slice.injEq, Option.some.injEq, Addr.mk.injEq, and_true] at he
                  obtain ⟨rfl, hq1, hq2⟩ := he
                  clear hq1 hq2
                  obtain ⟨hx1, hf1⟩ := hcell9 c (by have := HTL.out; omega)
                  rw [HTM.out.2.2.1] at hx1
                  have hx2 := (hcell6 d (by omega)).1
                  generalize L[d]?.getD 0 = y at hx2 HN
                  have HTT := Lib.hid hT
                  have HOB := Lib.hid hOb
                  clear hcell9 hcell6 hd hT hOb HSeen HTM
                  have HCS := Lib.hid (rfl : csum zs p = csum zs p)
                  obtain ⟨cs, hcs⟩ : ∃ cs, csum zs p = cs := ⟨_, rfl⟩
                  have HSUM : Hid (∀ W : World, IntsAt W a zs → Calls Try.prog 63 #[.slice a zs.length cap, .int .i64 p] W fun e w' => e = .returned (.int .i64 cs) ∧ ∃ n, w' = W.drewN n) := fun W hW => by
                    rw [← hcs]
                    exact l1Sum_any p a cap zs W (by omega) (by omega) hg hW
                  rw [hcs] at HN
                  clear hcs HCS
                  have HM : Hid ((if (if cs < y then y else cs) < v then (if cs < y then y else cs) else v) = min v (max cs y)) := by
                    show _ = _
                    split <;> split <;> omega
                  obtain ⟨r, hr⟩ : ∃ r, min v (max cs y) = r := ⟨_, rfl⟩
                  rw [hr] at HM HN
                  clear hr
                  go_wp2_with fail
                  go_region_with (go_at_call 63; refine (HSUM.out _ ?_).mono ?_; (exact hIr); rintro e w' ⟨rfl, m1, rfl⟩)
                  all_goals
                    rw [HM.out]
                    have hT9 := Lib.hid ((HTT.out.dr (1 + m1)).put HTL.out c r)
                    have hO6 := Lib.hid ((HOB.out.dr (1 + m1)).setO hne.symm c (.int .i64 r))
                    have hB6 := Lib.hid ((belowDr hB (1 + m1)).setCell (p := ⟨b9, c, none⟩) (by show g1 ≤ b9; omega) (.int .i64 r))
                    go_wp2
                    all_goals first
                      | exact ⟨⟨(p - 1) &&& c, by omega, by rw [HA.out], r, T.set c r, Lib.hid (HTP.out _), HS2, HN, hT9.out, hO6.out, hB6.out⟩, by rw [HA.out]; simp [intOf]; omega⟩
                      | (go_roundw
                         case rel => exact ⟨(p - 1) &&& c, by omega, by rw [HA.out], r, T.set c r, Lib.hid (HTP.out _), HS2, HN, hT9.out, hO6.out, hB6.out⟩
                         case measure => rw [HA.out]; simp [intOf]; omega)
                · obtain rfl : p = 0 := by omega
                  have HE := Lib.hid (tabM_end HNN.out HTM.out HSeen.out)
                  go_wp2
                  go_roundw
                  case rel => exact ⟨c + 1, T, by omega, by omega, by go_num, HE, hT, hOb, hB⟩
                  case measure => simp [intOf]; omega
            · obtain rfl : P = c := by omega
              have HE := Lib.hid (tabN_end HTN.out)
              have hk1 : k - 2 + 1 = k + 1 - 2 := by omega
              rw [hk1] at HE
              go_wp2
              go_roundw
              case rel => exact ⟨k + 1, T, by omega, by omega, by go_num, HE, hT, hB⟩
              case measure => simp [intOf]; omega
        · obtain rfl : k = m + 1 := by omega
          have hfin := tab_opt HNN.out HT.out HPF.out
          rw [show m + 1 - 2 + 1 = m by omega] at hfin
          have hx := (hcell6 (P - 1) (by omega)).1
          rw [hfin] at hx
          rw [hL]
          clear hcell6 hfin hO
          go_wp2
          go_ret
          exact ⟨rfl, by rw [hg1]; exact hB⟩
end Go.Proofs.Ytacedadenbinmaa
namespace Go.Proofs.Ytacedadenbinmaa
open Go.RowKit

theorem IntsAt.rest {w : World} {b off : Nat} {z : Int} {zs : List Int} (h : IntsAt w (some ⟨b, off, none⟩) (z :: zs)) : IntsAt w (some ⟨b, off + 1, none⟩) zs := by
  obtain ⟨b', off', e, hb, hc⟩ := h.at (by simp)
  cases e
  refine .inr ⟨b, off + 1, rfl, hb, fun j hj => ?_⟩
  have := hc (j + 1) (by simp; omega)
  rw [show off + 1 + j = off + (j + 1) by omega, this]
  simp

set_option maxRecDepth 100000 in
set_option maxHeartbeats 6400000 in
theorem l5Even_any : ∀ (zs : List Int) (a : Option Addr) (cap : Nat) (sa : Option Addr) (sc : Nat) (ss : List Int) (t : Int) (w : World), zs.length ≤ 6 → good zs → 1 ≤ ss.length ∧ ss.length ≤ 5 → (∀ y ∈ ss, 0 ≤ y ∧ y ≤ 1000000000000) → t ≤ 1000000000 → zs.length ≤ cap → IntsAt w a zs → IntsAt w sa ss →
    Calls Try.prog 41 #[.slice a zs.length cap, .slice sa ss.length sc, .int .i64 t] w fun e w' => e = .returned (.int .i64 (evL t zs ss)) ∧ Below w.heap.size w w' := by
  intro zs
  induction zs with
  | nil =>
    intro a cap sa sc ss t w _ _ _ _ _ _ _ _
    show Calls Try.prog 41 #[.slice a 0 cap, .slice sa ss.length sc, .int .i64 t] w fun e w' => e = .returned (.int .i64 1) ∧ Below w.heap.size w w'
    go_enter Try.func41, Try.ntmps41
    go_wp2_with fail
    go_ret
    exact ⟨rfl, Below.refl _ _⟩
  | cons z zs ih =>
    intro a cap sa sc ss t w hl hg hm hss ht hcap hI hS
    have HEV := Lib.hid (evL_cons t z zs ss)
    obtain ⟨X, hX⟩ : ∃ X, evL t (z :: zs) ss = X := ⟨_, rfl⟩
    have HX : Hid (sumK (evF t z zs ss) ss.length = X) := by show _ = _; rw [← hX, evL_cons]
    have hg' : good zs := fun x hx => hg x (List.mem_cons_of_mem _ hx)
    have hgz := hg z List.mem_cons_self
    rw [hX]
    clear hX HEV
    have hBD : ∀ k, 0 ≤ evF t z zs ss k ∧ evF t z zs ss k ≤ 15625 := fun k => by
      have h1 := evF_bd t z zs ss k
      have h2 : ss.length ^ zs.length ≤ 5 ^ 5 := Nat.le_trans (Nat.pow_le_pow_left hm.2 _) (Nat.pow_le_pow_right (by omega) (by simp at hl; omega))
      have h3 : ((ss.length : Int)) ^ zs.length = ((ss.length ^ zs.length : Nat) : Int) := by simp
      rw [h3] at h1
      omega
    have hSB : ∀ k, k ≤ ss.length → 0 ≤ sumK (evF t z zs ss) k ∧ sumK (evF t z zs ss) k ≤ 78125 := fun k hk => by
      have h1 := sumK_bd (f := evF t z zs ss) (B := 15625) (n := k) fun k _ => hBD k
      omega
    have hST : ∀ k, sumK (evF t z zs ss) (k + 1) = sumK (evF t z zs ss) k + evF t z zs ss k := fun _ => rfl
    have hS0 : sumK (evF t z zs ss) 0 = 0 := rfl
    have hEF : ∀ k, evF t z zs ss k = if ss[k]?.getD 0 + z ≤ t then evL t zs (putAt ss k z) else 0 := fun _ => rfl
    have hX2 := HX.out
    obtain ⟨S, hSS⟩ : ∃ S : Nat → Int, sumK (evF t z zs ss) = S := ⟨_, rfl⟩
    obtain ⟨F, hFF⟩ : ∃ F : Nat → Int, evF t z zs ss = F := ⟨_, rfl⟩
    rw [hSS] at hST hSB hX2 hS0
    rw [hFF] at hST hBD hEF
    have HBD := Lib.hid hBD
    have HSB := Lib.hid hSB
    have HST := Lib.hid hST
    have HEF0 := Lib.hid hEF
    have HXX2 := Lib.hid hX2
    have HS0 := Lib.hid hS0
    clear hBD hSB hST hEF hSS hFF hX2 HX hS0
    obtain ⟨b0, o0, rfl, hb0, hc0⟩ := hI.at (by simp)
    have hz0 := hc0 0 (by simp)
    simp only [Nat.add_zero, List.getElem?_cons_zero, Option.getD_some] at hz0
    have hI2 := hI.rest
    rw [List.length_cons] at *
    clear hc0
    have hne0 : ((zs.length : Int) + 1 == 0) = false := by simp; omega
    go_enter Try.func41, Try.ntmps41
    go_wp2_with fail
    go_loopw [7, 8] (fun n i wr => ∃ k : Nat, k ≤ ss.length ∧ n = .int .i64 (S k) ∧ i = .int .i64 k ∧ Below w.heap.size w wr) (fun _ i _ => ss.length - (intOf i).toNat)
    case atStart => exact ⟨0, Nat.zero_le _, by rw [HS0.out], rfl, Below.refl _ _⟩
    case round =>
      obtain ⟨k, hk, rfl, rfl, hB⟩ := hrel
      by_cases hlt : k < ss.length
      · have hSr := hS.below hB
        obtain ⟨b1, o1, rfl, hb1, hc1⟩ := hSr.at (by omega)
        have hx := hc1 k hlt
        have hxb := hss _ (List.getElem_mem hlt)
        have hxe : ss[k]?.getD 0 = ss[k] := by rw [List.getElem?_eq_getElem hlt]; rfl
        rw [← hxe] at hxb
        have hz1 := (hB.cell (p := ⟨b0, o0, none⟩) hb0).trans hz0
        have HNXT := Lib.hid (HST.out k)
        have HEF := Lib.hid (HEF0.out k)
        have HPU : Hid (putAt ss k z = ss.set k (ss[k]?.getD 0 + z)) := rfl
        obtain ⟨q, hq⟩ : ∃ q, S k = q := ⟨_, rfl⟩
        have hqb := HSB.out k (by omega)
        have hfb := HBD.out k
        rw [hq] at HNXT hqb ⊢
        obtain ⟨f, hf⟩ : ∃ f, F k = f := ⟨_, rfl⟩
        rw [hf] at HNXT HEF hfb
        have HW : Hid (IntKind.i64.wrap (q + f) = S (k + 1)) := by
          show _ = _
          rw [HNXT.out]
          exact IntWalk.i64_in _ (by omega)
        clear hxe hc1 hq hf
        obtain ⟨x, hxx⟩ : ∃ x, ss[k]?.getD 0 = x := ⟨_, rfl⟩
        have HXX := Lib.hid hxx
        rw [hxx] at hx hxb HEF HPU
        clear hxx
        have hw1 : IntKind.i64.wrap (x + z) = x + z := IntWalk.i64_in _ (by omega)
        by_cases hle : x + z ≤ t
        · have HE2 := HEF.out
          rw [if_pos hle] at HE2
          have hA : OwnI (wr.alloc (.cells #[] 3)) w.heap.size (.slice (some ⟨wr.heap.size, 0, none⟩) 0 0) [] := World.ownsRow_lit wr #[] 0 hB.size (by unfold maxLen; omega) (by simp)
          have hSa := hSr.below (w' := wr.alloc (.cells #[] 3)) ((Below.refl _ wr).alloc (Nat.le_refl _) _)
          have hBa := hB.alloc hB.size (.cells #[] 3)
          clear hSr
          go_wp2_with fail
          go_region
          go_wp2_with (at_builtin; refine appendSl _ rfl _ _ rfl w.heap.size (.slice (some ⟨wr.heap.size, 0, none⟩) 0 0) [] ss ⟨b1, o1, none⟩ ss.length sc rfl rfl rfl ?_ (by simp) (by omega) ?_ ?_ ?_; (exact hA); (exact hSa); (have := hBa.size; exact this); intro v' w' hO' hG' hat; rw [List.nil_append] at hO'; obtain ⟨b9, c9, rfl, hq1, hq2, hc9⟩ := hO'.at (by omega))
          have hB2 := hBa.drew.grown hG' (by have := hBa.size; exact this) (fun j hj => by simp only [Value.ownBlock, Option.some.injEq] at hj; have := hB.size; omega)
          have hz2 := (hB2.cell (p := ⟨b0, o0, none⟩) hb0).trans hz0
          obtain ⟨hx9, hf9⟩ := hc9 k hlt
          rw [HXX.out] at hx9
          have HO := Lib.hid hO'
          have hb9 : w.heap.size ≤ b9 := hq1
          clear hc9 hG' hat hA hSa hBa hq1 hO' hx hz1 hz0 hB hb1
          go_wp2_with fail
          go_region
          have HIH : Hid (∀ (a' : Option Addr) (cap' : Nat) (W : World), zs.length ≤ cap' → IntsAt W a' zs → IntsAt W (some ⟨b9, 0, none⟩) (putAt ss k z) → Calls Try.prog 41 #[.slice a' zs.length cap', .slice (some ⟨b9, 0, none⟩) ss.length c9, .int .i64 t] W fun e w' => e = .returned (.int .i64 (evL t zs (putAt ss k z))) ∧ Below W.heap.size W w') := by
            intro a' cap' W h0 h1 h2
            have h := ih a' cap' (some ⟨b9, 0, none⟩) c9 (putAt ss k z) t W (by omega) hg' (by rw [putAt_length]; exact hm) (fun y hy => ?_) ht h0 h1 h2
            · rwa [putAt_length] at h
            · rw [HPU.out] at hy
              rcases List.mem_or_eq_of_mem_set hy with hy | rfl
              · exact hss y hy
              · omega
          have hO3 := ((HO.out.put rfl k (x + z)).dr 1).ints
          rw [← HPU.out] at hO3
          have hB3 := belowDr (hB2.setCell (p := ⟨b9, k, none⟩) (by show w.heap.size ≤ b9; exact hb9) (.int .i64 (x + z))) 1
          have hI3 := hI2.below hB3
          have he3 : evL t zs (putAt ss k z) = f := HE2.symm
          rw [he3] at HIH
          have HI3 := Lib.hid hI3
          have HO3 := Lib.hid hO3
          have HB3 := Lib.hid hB3
          clear hI3 hO3 hB3 he3 HE2 HEF
          have HNZ : Hid (cap = 1 → ∀ (a' : Option Addr) (W : World), IntsAt W a' zs) := fun e a' W => by
            have : zs = [] := List.eq_nil_of_length_eq_zero (by omega)
            rw [this]
            exact .inl rfl
          go_wp2_with fail
          all_goals
            refine (HIH.out _ _ _ (by omega) (by first | exact HI3.out | exact HNZ.out (by assumption) _ _) HO3.out).mono ?_
            rintro e w4 ⟨rfl, hB4⟩
            have HB5 := Lib.hid (HB3.out.trans (hB4.mono HB3.out.size))
            clear hB4 HI3 HO3 HB3
            first | subst h | clear h
            go_wp2_with fail
            go_roundw
            case rel => exact ⟨k + 1, by omega, by first | rfl | exact congrArg (Value.int IntKind.i64) HW.out | rw [HNXT.out], by go_num, HB5.out⟩
            case measure => simp [intOf]; omega
        · have HE2 : Hid (f = 0) := by show _ = _; rw [HEF.out, if_neg hle]
          go_wp2_with fail
          go_region
          go_wp2_with fail
          go_roundw
          case rel =>
            exact ⟨k + 1, by omega, by rw [HNXT.out, HE2.out]; simp, by go_num, by first | exact hB | exact hB.drew | exact belowDr hB _⟩
          case measure => simp [intOf]; omega
      · obtain rfl : k = ss.length := by omega
        rw [HXX2.out]
        go_wp2_with fail
        go_ret
        exact ⟨rfl, hB⟩
end Go.Proofs.Ytacedadenbinmaa
