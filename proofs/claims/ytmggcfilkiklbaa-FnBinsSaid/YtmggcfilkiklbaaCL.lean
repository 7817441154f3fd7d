/- slices.Clone of ints. Conditions: the list has at most 1000000 numbers. -/
import Derived.Test.YtmggcfilkiklbaaBase
namespace Go.Proofs.Ytmggcfilkiklbaa
open Go.RowKit

def ClonePost (w : World) (zs : List Int) (e : Ending) (w' : World) : Prop := ∃ v, e = .returned v ∧ OwnI w' w.heap.size v zs ∧ Below w.heap.size w w'

set_option maxHeartbeats 800000 in
theorem Clone_any (ad : Addr) (cap : Nat) (zs : List Int) (w : World) (hl : zs.length ≤ 1000000) (hI : IntsAt w (some ad) zs) :
    Calls Try.prog 19 #[.slice (some ad) zs.length cap] w (ClonePost w zs) := by
  have HO : OwnI (w.alloc (.cells #[] 3)) w.heap.size (.slice (some ⟨w.heap.size, 0, none⟩) 0 0) [] := World.ownsRow_lit w #[] 0 (Nat.le_refl _) (by unfold maxLen; omega) (by simp)
  have hB0 : Below w.heap.size w (w.alloc (.cells #[] 3)) := (Below.refl _ _).alloc (Nat.le_refl _) _
  have hnews : ∀ j u, (zs.map (fun x => Value.int .i64 x))[j]? = some u → (w.alloc (.cells #[] 3)).cell? (ad.add j) = some u := by
    intro j u hu
    rw [List.getElem?_map] at hu
    rcases Nat.lt_or_ge j zs.length with h | h
    · obtain ⟨b, off, he, _, hc⟩ := (hI.below hB0).at (by omega)
      simp only [Option.some.injEq] at he
      subst he
      have this : (w.alloc (.cells #[] 3)).cell? (Addr.add ⟨b, off, none⟩ j) = some (.int .i64 (zs[j]?.getD 0)) := by
        rcases Nat.eq_zero_or_pos j with e | e
        · subst e; simpa [Addr.add] using hc 0 h
        · have e0 : j ≠ 0 := by omega
          simpa [Addr.add, e0] using hc j h
      simp only [List.getElem?_eq_getElem h, Option.map_some, Option.some.injEq, Option.getD_some] at hu this
      rw [← hu]
      exact this
    · rw [List.getElem?_eq_none h] at hu; cases hu
  have he : ∀ w : World, (binOp .eql 23 (.slice (some ad) zs.length cap) (.slice none 0 0)).run Try.prog w = .ok (.bool false) w := fun _ => rfl
  go_enter Try.func19, Try.ntmps19
  obtain ⟨i0, hi, hz0, hz1, hz2⟩ := info_parts Try.infoInt
  go_wp2_with (at_builtin; refine wpList_append_own _ rfl _ _ 23 rfl w.heap.size 3 i0 (.int .i64 0) 1 8 Try.underlying23 hi hz0 hz1 hz2 rfl (by decide) (.slice (some ⟨w.heap.size, 0, none⟩) 0 0) 0 [] rfl HO ad zs.length cap (zs.map (fun x => Value.int .i64 x)) rfl (by simp) hnews ?_ (by unfold maxLen; omega) (by omega) (by simp) ?_; (intro u hu; obtain ⟨x, _, rfl⟩ := List.mem_map.1 hu; rfl); intro v' w' h1 h2 _)
  go_ret
  refine ⟨v', rfl, ?_, hB0.grown h2 (by simp) (fun k hk => by simp [Value.ownBlock] at hk; omega)⟩
  unfold OwnI
  simpa using h1

theorem Clone_none (cap : Nat) (w : World) :
    Calls Try.prog 19 #[.slice none 0 cap] w (ClonePost w []) := by
  have he : ∀ w : World, (binOp .eql 23 (.slice none 0 cap) (.slice none 0 0)).run Try.prog w = .ok (.bool true) w := fun _ => rfl
  go_enter Try.func19, Try.ntmps19
  go_wp2
  go_ret
  exact ⟨_, rfl, World.ownsRow_nil w _ _ _, Below.refl _ _⟩
theorem Clone_all (a : Option Addr) (cap : Nat) (zs : List Int) (w : World) (hl : zs.length ≤ 1000000) (hI : IntsAt w a zs) :
    Calls Try.prog 19 #[.slice a zs.length cap] w (ClonePost w zs) := by
  cases a with
  | some ad => exact Clone_any ad cap zs w hl hI
  | none =>
    rcases hI with rfl | ⟨b, off, h, _⟩
    · exact Clone_none cap w
    · cases h
end Go.Proofs.Ytmggcfilkiklbaa
