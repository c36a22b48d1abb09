/-
  Layer 34: the law on what a set tells of any calls, walked: its acts come in; a number that is none.
-/
import Derived.Test.YtnamakimmlnleaaPlayed
import Derived.Test.YtnamakimmlnleaaRowed
namespace Go.Proofs.Ytnamakimmlnleaa
open Go.ChangeShapes Go.WideShapes Go.RowKit Go.Deep
set_option linter.unusedVariables false

theorem acts_of {H : Type} {enc : TypeId × Value → H} {W : World} {a : Option Addr} {len cap : Nat} {d : DataW H} {p : List MemPlace} (h : DataW.Trod enc Try.prog W 0 (fun _ => true) true 34 (.slice a len cap) d p) : Acts W a len := by
  obtain ⟨hl, hr⟩ := rows_of Try.underlying34 Try.underlying37 (by kernel_rfl) (by kernel_rfl) (by decide) h
  refine ⟨hl, fun j hj => ?_⟩
  obtain ⟨b, off, e, hlt, hf⟩ := hr j hj
  obtain ⟨v0, n0, y0, c0, t0⟩ := hf 0 _ rfl
  obtain ⟨v2, n2, y2, c2, t2⟩ := hf 1 _ rfl
  obtain ⟨k, e0, _, _⟩ := DataW.trod_int Try.underlying3 t0
  obtain ⟨s, e2, _, hs⟩ := DataW.trod_string Try.underlying9 t2
  simp at e0 e2
  subst e0 e2
  exact ⟨b, off, k, s, e, hlt, c0, c2, hs⟩

set_option maxRecDepth 100000 in
theorem plays_no (n : Int) (hn : n < 0 ∨ 10000 < n) (a : Option Addr) (len cap : Nat) (ask : ByteArray) (w : World) :
    Calls Try.prog 4 #[.int .i64 n, .slice a len cap, .string ask] w fun e w' => e = .returned (.bool true) ∧ Below w.heap.size w w' := by
  have H5 := Lib.hid (New_no n hn)
  have H6 := Lib.hid lives_any
  by_cases h0 : n < 0
  · clear hn
    go_enter Try.func4, Try.ntmps4
    go_wp2_with (first
      | (go_at_call 6; refine (H5.out _).mono ?_; rintro e w1 ⟨rfl, rfl⟩)
      | (go_at_call 11; (with_reducible refine (H6.out _).mono ?_); rintro e w3 ⟨rfl, hb⟩; have HB3 := Lib.hid hb; clear hb))
    go_ret
    exact ⟨rfl, HB3.out⟩
  · have h1 : 10000 < n := by omega
    clear hn
    go_enter Try.func4, Try.ntmps4
    go_wp2_with (first
      | (go_at_call 6; refine (H5.out _).mono ?_; rintro e w1 ⟨rfl, rfl⟩)
      | (go_at_call 11; (with_reducible refine (H6.out _).mono ?_); rintro e w3 ⟨rfl, hb⟩; have HB3 := Lib.hid hb; clear hb))
    go_ret
    exact ⟨rfl, HB3.out⟩

theorem plays_walk {H : Type} {enc : TypeId × Value → H} {d : DataW H} {p : List MemPlace} (n : Int) (a : Option Addr) (len cap : Nat) (ask : ByteArray) (w : World) (_ : (Lit.int .i64 n).wf = true)
    (h : DataW.Trod enc Try.prog w 0 (fun _ => true) true 34 (.slice a len cap) d p) (_ : ∀ x ∈ p, x.block < w.heap.size) (hask : ask.size ≤ maxLen) :
    Calls Try.prog 4 #[.int .i64 n, .slice a len cap, .string ask] w fun e w' => e = .returned (.bool true) ∧ Below w.heap.size w w' := by
  by_cases hn : n < 0 ∨ 10000 < n
  · exact plays_no n hn a len cap ask w
  · obtain ⟨m, rfl⟩ : ∃ m : Nat, n = m := ⟨n.toNat, by omega⟩
    exact plays_yes m (by omega) a len cap ask hask w (acts_of h)
end Go.Proofs.Ytnamakimmlnleaa
