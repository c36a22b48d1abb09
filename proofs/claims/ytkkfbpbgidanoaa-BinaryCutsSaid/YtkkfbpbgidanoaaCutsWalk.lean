/-
  Layer 19 (binary): the law on the first bytes of any text, long or short, walked. No condition.
-/
import Derived.Test.YtkkfbpbgidanoaaLives
namespace Go.Proofs.Ytkkfbpbgidanoaa
open Go.RowKit
set_option linter.unusedVariables false

/-- The first k bytes of a text that is laid one behind the other. -/
def again (t : ByteArray) (k : Nat) : List UInt8 := (List.range k).map fun j => t.data.toList.getD (j % t.size) 0
theorem again_length (t : ByteArray) (k : Nat) : (again t k).length = k := by simp [again]
theorem again_succ (t : ByteArray) (k : Nat) (h : k % t.size < t.size) : again t (k + 1) = again t k ++ [t[k % t.size]] := by
  simp only [again, List.range_succ, List.map_append, List.map_cons, List.map_nil]
  congr 2
  rw [← byte_at t _ h, List.getD_eq_getElem?_getD, List.getElem?_eq_getElem]
  rfl

theorem Try.info5 : (Try.prog.info? 5).map (fun i => (i.zero, i.size, i.bytes)) = some (some (.int .u8 0), 1, 1) := by kernel_rfl

set_option maxHeartbeats 1000000 in
theorem cuts_core (s t : ByteArray) (b : Bool) (n : Nat) (w : World) (hs : s.size ≤ maxLen) (hne : ((s.size : Int) == 0) = b) (ht0 : 0 < t.size) (ht1 : t.size ≤ 100) (hn : n < 65536)
    (hcb : Hid (∀ w, Calls Try.prog 9 #[.string (cond b ⟨#[97]⟩ s), .int .i64 100] w fun e w' => e = .returned (.string t) ∧ w = w')) :
    Calls Try.prog 4 #[.string s, .int .u16 n] w fun e w' => e = .returned (.bool true) ∧ Below w.heap.size w w' := by
  unfold maxLen at hs
  cases b
  all_goals
    have hc := hcb
    simp only [cond] at hc
    clear hcb
    obtain ⟨i0, hi, hz0, hz1, hz2⟩ := info_parts Try.info5
    have hi := Lib.hid hi
    have hz0 := Lib.hid hz0
    have hz1 := Lib.hid hz1
    have hz2 := Lib.hid hz2
    have HL := Lib.hid lives_any
    go_enter Try.func4, Try.ntmps4
    go_wp2_with (go_at_call 9; refine (hc.out _).mono ?_; rintro e w' ⟨rfl, rfl⟩)
    go_loopw [5, 6] (fun b i wr => ∃ k : Nat, k ≤ n % 3000 ∧ i = .int .i64 k ∧ wr.ownsRow w.heap.size 5 1 b k ((again t k).map fun c => Value.int .u8 (c.toNat : Int)) ∧ Below w.heap.size w wr)
      (fun _ i _ => n % 3000 - (intOf i).toNat)
    case atStart => exact ⟨0, Nat.zero_le _, rfl, World.ownsRow_made w #[] 0 (Nat.le_refl _) (by decide) rfl, (Below.refl _ _).alloc (Nat.le_refl _) _⟩
    case round =>
      obtain ⟨k, hk, rfl, hown, hbel⟩ := hrel
      have hk3 : k < 3000 := by omega
      have hmod : k % t.size < t.size := Nat.mod_lt _ ht0
      have HO := Lib.hid hown
      have HB := Lib.hid hbel
      clear hown hbel
      by_cases hlt : k < n % 3000
      · go_wp2_with (at_builtin; refine wpList_append_own _ rfl (.tmp 20) (.tmp 27) 26 rfl w.heap.size 5 i0 (.int .u8 0) 1 1 Try.underlying26 hi.out hz0.out hz1.out hz2.out rfl (by decide) _ _ _ rfl (HO.out.alloc _) ⟨wr.heap.size, 0, none⟩ 1 1 [.int .u8 (t[k % t.size].toNat : Int)] rfl rfl (cell_one_new _ _ _) (by intro u hu; simp at hu; subst hu; rfl) (by unfold maxLen; omega) (by omega) (by have := HB.out.size; simp; omega) ?_; intro v' w1 hown' hgrow _; have HO' := Lib.hid hown'; have HG := Lib.hid hgrow; clear hown' hgrow)
        go_roundw
        case rel =>
          refine ⟨k + 1, by omega, by go_num, ?_, ?_⟩
          · rw [again_succ t k hmod]
            simpa using HO'.out
          · exact (HB.out.alloc HB.out.size _).grown HG.out (by have := HB.out.size; simp; omega) (fun g hg => (HO.out.lt g hg).1)
        case measure => simp [intOf]; omega
      · have hk' : k = n % 3000 := by omega
        have hcv := own_string 26 5 9 Try.underlying26 Try.underlying5 Try.underlying9 wr.drew w.heap.size k _ (again t k) (again_length t k) HO.out
        have hbd : Below w.heap.size w wr.drew := HB.out.drew
        have hsz : (⟨(again t k).toArray⟩ : ByteArray).size ≤ maxLen := by
          have : (⟨(again t k).toArray⟩ : ByteArray).size = k := by simp [ByteArray.size, again_length]
          unfold maxLen
          omega
        obtain ⟨x, hx⟩ : ∃ x, (⟨(again t k).toArray⟩ : ByteArray) = x := ⟨_, rfl⟩
        rw [hx] at hcv hsz
        clear hx hk'
        have hb1 := Lib.hid (fun w => bcut_any x hsz w)
        have hb2 := Lib.hid (fun w => refcut_any x hsz w)
        clear hsz HO HB
        have HD := Lib.hid hbd
        have HCV := Lib.hid hcv
        clear hbd hcv
        go_wp2_with fail
        refine still_tail 8 (by kernel_rfl) (by kernel_rfl) (fun wd hwd => ?_)
        rw [← hwd] at HD HCV
        clear hwd
        have hcv := HCV.out
        clear HCV
        simp only [List.take_succ_cons, List.take_zero, List.drop_succ_cons, List.drop_zero]
        repeat still_step
        still_call (still_of (hb1.out _))
        repeat still_step
        still_call (still_of (hb2.out _))
        repeat still_step
        refine wpStill_nil ?_
        clear hcv
        go_wp2_with (go_at_call 8; refine (HL.out _).mono ?_; rintro e w1 ⟨rfl, hb1⟩; have HB1 := Lib.hid hb1; clear hb1)
        go_ret
        exact ⟨rfl, HD.out.trans (HB1.out.mono HD.out.size)⟩
theorem cuts_walk (s : ByteArray) (a1 : Int) (w : World) (hs : s.size ≤ maxLen) (w1 : (Lit.int .u16 a1).wf = true) :
    Calls Try.prog 4 #[.string s, .int .u16 a1] w fun e w' => e = .returned (.bool true) ∧ Below w.heap.size w w' := by
  obtain ⟨n, rfl, hn⟩ := u16_of a1 w1
  by_cases h0 : s.size = 0
  · exact cuts_core s ((⟨#[97]⟩ : ByteArray).extract 0 100) true n w hs (by simp [h0]) (by decide) (by decide) hn (Lib.hid fun w => cut_any ⟨#[97]⟩ 100 (by decide) w)
  · exact cuts_core s (s.extract 0 100) false n w hs (by simpa using h0) (by rw [ByteArray.size_extract]; omega) (by rw [ByteArray.size_extract]; omega) hn (Lib.hid fun w => cut_any s 100 hs w)

end Go.Proofs.Ytkkfbpbgidanoaa
