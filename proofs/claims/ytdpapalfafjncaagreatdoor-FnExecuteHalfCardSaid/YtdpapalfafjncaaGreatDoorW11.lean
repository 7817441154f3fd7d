/- SumOf of the reference; the choice of all others; the draw of a list and a choice. Conditions: stated in each. -/
import Derived.Test.YtdpapalfafjncaaGreatDoorLE
import Derived.Test.YtdpapalfafjncaaGreatDoorW9
import Derived.Test.YtdpapalfafjncaaGreatDoorM12
import Derived.Deep.RegionWith
namespace Go.Proofs.YtdpapalfafjncaaGreatDoor
open Go.RowKit

theorem csum_compl (zs : List Int) : ∀ c : Nat, c < 2 ^ zs.length → csum zs c + csum zs (2 ^ zs.length - 1 - c) = tot zs := by
  induction zs with
  | nil => intro c _; rfl
  | cons x xs ih =>
    intro c h
    rw [List.length_cons, Nat.pow_succ] at h ⊢
    have h1 := ih (c / 2) (by omega)
    rw [csum_cons, csum_cons, tot, show (2 ^ xs.length * 2 - 1 - c) / 2 = 2 ^ xs.length - 1 - c / 2 by omega]
    by_cases e : c % 2 = 1
    · rw [if_pos e, if_neg (by omega)]; omega
    · rw [if_neg e, if_pos (by omega)]; omega

theorem DrI.drew {w0 w : World} {Br len cap : Nat} {a : Option Addr} {p : Int} {v : Value} {zs : List Int} (h : DrI w0 w Br a len cap p v zs) : DrI w0 w.drew Br a len cap p v zs :=
  ⟨h.1, h.2.1.dr 1, belowDr h.2.2.1 1, h.2.2.2⟩
theorem pickDd {Br len cap : Nat} {a : Option Addr} {p m : Int} {w0 w : World} {v : Value} {zs : List Int} (hD : DrI w0 w Br a len cap p v zs) (hp : 0 ≤ p ∧ p ≤ 1000000) (hlen : len ≤ 2000) (hm : m ≤ 1000000) :
    Calls Tryz.prog 46 #[.pointer (some ⟨Br, 0, none⟩), .int .i64 m] w fun e w' => ∃ x : Int, e = .returned (.int .i64 x) ∧ 0 ≤ x ∧ (x < m ∨ x = 0) ∧ DrI w0 w' Br a len cap (p + 1) v zs ∧ w.grownBy w' (some Br) := pickD Br len cap a p m w0 w v zs hp hlen hm hD

theorem kwrap (x : Int) (h : -1000000 ≤ x ∧ x ≤ 1000000) : IntKind.i64.wrap x = x := IntWalk.i64_in x (by omega)
theorem tdiv23 {x : Int} (h0 : 0 ≤ x) (h1 : x < 24 ∨ x = 0) : 0 ≤ x.tdiv 23 ∧ x.tdiv 23 ≤ 1 := by rw [Int.tdiv_eq_ediv_of_nonneg h0]; omega
theorem mBd {x : Int} {n : Nat} (h0 : 0 ≤ x) (h1 : x < 24 ∨ x = 0) (hp : 1 ≤ (2 : Int) ^ n ∧ (2 : Int) ^ n ≤ 256) : IntKind.i64.wrap (IntKind.i64.wrap (2 ^ n) + IntKind.i64.wrap (x.tdiv 23)) ≤ 300 := by
  have := tdiv23 h0 h1
  rw [kwrap (2 ^ n) (by omega), kwrap (x.tdiv 23) (by omega), kwrap _ (by omega)]
  omega
theorem qBd {x y m : Int} (h0 : 0 ≤ x) (h1 : x < 24 ∨ x = 0) (h2 : 0 ≤ y) (h3 : y < m ∨ y = 0) (h4 : m ≤ 300) : -1 ≤ IntKind.i64.wrap (y - IntKind.i64.wrap (x.tdiv 23)) ∧ IntKind.i64.wrap (y - IntKind.i64.wrap (x.tdiv 23)) ≤ 300 := by
  have := tdiv23 h0 h1
  rw [kwrap (x.tdiv 23) (by omega), kwrap _ (by omega)]
  omega

end Go.Proofs.YtdpapalfafjncaaGreatDoor
