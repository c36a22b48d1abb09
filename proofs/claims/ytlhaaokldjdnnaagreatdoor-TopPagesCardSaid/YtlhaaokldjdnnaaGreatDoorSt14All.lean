/-
  Parts, one behind the other: Layer 38 (stream): what is judged at the end is settled, and the end told: something is. No condition but that the tables lie as they were laid. | The walk of the law: what is HTML never comes. No condition but that the tables lie as they were laid. | The walk of the law. No condition but that the tables lie as they were laid.
-/
import Derived.Test.YtlhaaokldjdnnaaGreatDoorTell
import Derived.Test.YtlhaaokldjdnnaaGreatDoorSt10All
import Derived.Test.YtlhaaokldjdnnaaGreatDoorSt9
import Derived.Test.YtlhaaokldjdnnaaGreatDoorLaw2All
import Derived.Test.YtlhaaokldjdnnaaGreatDoorSt7All
import Derived.Test.YtlhaaokldjdnnaaGreatDoorSt12All
import Derived.Test.YtlhaaokldjdnnaaGreatDoorSt13
import Derived.Test.YtlhaaokldjdnnaaGreatDoorFilm2All
namespace Go.Proofs.YtlhaaokldjdnnaaGreatDoor
open Go.RowKit
set_option linter.unusedVariables false
set_option linter.unusedSimpArgs false
set_option linter.all false

/-- What is told by what is settled: one thing, or two; the stage is 3 or 4. -/
def Settled (w w' : World) (B : Nat) (a : Ads) (e : Ending) : Prop :=
  (∃ A n c, e = .returned (.slice A n c) ∧ 1 ≤ n ∧ n ≤ 2 ∧ Tell w' w.heap.size (.slice A n c) n) ∧ (∃ c st, w'.heap[a.g]? = some (.cells c 64 (0, 0)) ∧ c[10]? = some (.int .i64 st) ∧ (st = 3 ∨ st = 4)) ∧ B ≤ a.g ∧ Kept w w' B stT
set_option maxRecDepth 100000 in
set_option maxHeartbeats 8000000 in
theorem settle_any {w : World} {B : Nat} {a : Ads} {lg sn : Bool} {came : Nat} {bs : List UInt8} (hroom : B ≤ w.heap.size)
    (hj : Calls Tryz.prog 36 #[.pointer (some ⟨a.g, 0, none⟩), .bool true] w fun e w' => (∃ v r p, e = .returned (.agg #[.int .i64 v, .string r, .int .i64 p, .bool false]) ∧ v ≠ 0) ∧ Sw w' B a (stCells lg 200 (hdV a) 1 a.gh a.gl 0 ⟨#[]⟩ 0 false false came sn) bs ∧ Kept w w' B stT) :
    Calls Tryz.prog 22 #[.pointer (some ⟨a.g, 0, none⟩), .bool true] w fun e w' => Settled w w' B a e := by
  have HJ := Lib.hid hj
  have HROOM := Lib.hid hroom
  clear hj hroom
  go_enter Tryz.func22, Tryz.ntmps22
  go_wp2_with fail
  refine HJ.out.mono ?_
  rintro e w1 ⟨⟨v, r, p, rfl, hv⟩, hs, hk⟩
  have hb1 : Below w1.heap.size w1 (w1.alloc (.cells #[.int .i64 v, .string r, .int .i64 p, .bool false] 62)) := (Below.refl _ _).alloc (Nat.le_refl _) _
  have hs2 := hs.below hb1
  obtain ⟨m0, m1, m2, m3, m4, m5, m6, m7, m8, m9, m10, m11, m12, m13, m14, m15, m16, m17, m18, m19, m20⟩ := st_cells hs2.blk
  have n10 := blk_frozen hs2.blk 10
  have n13 := blk_frozen hs2.blk 13
  have n14 := blk_frozen hs2.blk 14
  have n15 := blk_frozen hs2.blk 15
  have n16 := blk_frozen hs2.blk 16
  have n17 := blk_frozen hs2.blk 17
  have hne : a.g ≠ w1.heap.size := by have := blk_lt hs.blk; omega
  have hr5 : (w1.alloc (.cells #[.int .i64 v, .string r, .int .i64 p, .bool false] 62)).heap[w1.heap.size]? = some (.cells #[.int .i64 v, .string r, .int .i64 p, .bool false] 62 (0, 0)) := heap_alloc_new w1 _
  have hv0 : (v == 0) = false := by simpa using hv
  have HS := Lib.hid hs
  have HK := Lib.hid hk
  have HS2 := Lib.hid hs2
  have HR5 := Lib.hid hr5
  have hlow := HS2.out.low
  have hsz1 : w.heap.size ≤ w1.heap.size := hk.below.size
  clear hs hk hb1 hs2 HJ hr5 m0 m1 m2 m3 m4 m5 m6 m7 m8 m9 m12 m18 m19 m20
  by_cases h2 : v = 2
  · subst h2
    clear hv hv0
    go_wp2_with fail
    have HS3 := Lib.hid ((((((HS2.out.set 13 (.int .i64 2)).set 14 (.string r)).set 15 (.int .i64 p)).set 16 (.bool false)).set 17 (.bool true)).set 10 (.int .i64 4))
    have HK3 := Lib.hid ((((((Kept.refl _ B [64]).set_ hlow HS2.out.blk (by simp) 13 (.int .i64 2)).set_ hlow HS2.out.blk (by simp) 14 (.string r)).set_ hlow HS2.out.blk (by simp) 15 (.int .i64 p)).set_ hlow HS2.out.blk (by simp) 16 (.bool false)).set_ hlow HS2.out.blk (by simp) 17 (.bool true) |>.set_ hlow HS2.out.blk (by simp) 10 (.int .i64 4))
    have HR3 := Lib.hid ((HK3.out.keep _ _ _ _ HR5.out (by decide)).trans HR5.out)
    have HK03 : Hid (Kept w _ B stT) := Lib.hid ((HK.out.trans (Kept.of ((Below.refl _ _).alloc (Nat.le_refl _) _) HS.out.room stT)).trans (HK3.out.wide (by decide)))
    refine (Shut_yes HS3.out.hold (by decide) HS3.out.room).mono ?_
    rintro e w2 ⟨rfl, hh2, hk2⟩
    have hr := (hk2.keep _ _ _ _ HR3.out (by decide)).trans HR3.out
    have c1 : w2.cell? ⟨w1.heap.size, 1, none⟩ = some (.string r) := cell_of_row _ _ 1 _ _ _ hr
    have HB2 := Lib.hid ((hk2.keep _ _ _ _ HS3.out.blk (by decide)).trans HS3.out.blk)
    have HK2 := Lib.hid (HK03.out.trans (hk2.wide (by decide)))
    clear hr hh2 hk2
    go_wp2
    go_ret
    refine ⟨⟨_, _, _, rfl, Nat.le_refl _, by omega, Tell.lit (heap_alloc_new w2 _) HK2.out.below.size rfl rfl rfl rfl rfl rfl⟩, ⟨_, 4, (Below.heap_alloc _ _ _ (blk_lt HB2.out)).trans HB2.out, rfl, .inr rfl⟩, hlow, HK2.out.trans (Kept.of ((Below.refl _ _).alloc (Nat.le_refl _) _) ?_ _)⟩
    have := blk_lt HB2.out
    omega
  · have hv2 : (v == 2) = false := by simpa using h2
    clear hv h2
    go_wp2_with fail
    have hs3 := ((((((HS2.out.set 13 (.int .i64 v)).set 14 (.string r)).set 15 (.int .i64 p)).set 16 (.bool false)).set 17 (.bool true)).set 10 (.int .i64 3))
    have HK3 := Lib.hid ((((((Kept.refl _ B [64]).set_ hlow HS2.out.blk (by simp) 13 (.int .i64 v)).set_ hlow HS2.out.blk (by simp) 14 (.string r)).set_ hlow HS2.out.blk (by simp) 15 (.int .i64 p)).set_ hlow HS2.out.blk (by simp) 16 (.bool false)).set_ hlow HS2.out.blk (by simp) 17 (.bool true) |>.set_ hlow HS2.out.blk (by simp) 10 (.int .i64 3))
    have HK03 : Hid (Kept w _ B stT) := Lib.hid ((HK.out.trans (Kept.of ((Below.refl _ _).alloc (Nat.le_refl _) _) HS.out.room stT)).trans (HK3.out.wide (by decide)))
    clear HK3 m10 m11 m13 m14 m15 m16 m17 n10 n13 n14 n15 n16 n17
    have hcs : ((((((stCells lg 200 (hdV a) 1 a.gh a.gl 0 ⟨#[]⟩ 0 false false came sn).setIfInBounds 13 (.int .i64 v)).setIfInBounds 14 (.string r)).setIfInBounds 15 (.int .i64 p)).setIfInBounds 16 (.bool false)).setIfInBounds 17 (.bool true)).setIfInBounds 10 (.int .i64 3) = stCells lg 200 (hdV a) 3 a.gh a.gl v r p false true came sn := rfl
    rw [hcs] at hs3
    generalize ((((((w1.alloc (.cells #[.int .i64 v, .string r, .int .i64 p, .bool false] 62)).setCell ⟨a.g, 13, none⟩ (.int .i64 v)).setCell ⟨a.g, 14, none⟩ (.string r)).setCell ⟨a.g, 15, none⟩ (.int .i64 p)).setCell ⟨a.g, 16, none⟩ (.bool false)).setCell ⟨a.g, 17, none⟩ (.bool true)).setCell ⟨a.g, 10, none⟩ (.int .i64 3) = w3 at hs3 HK03 ⊢
    have HS3 := Lib.hid hs3
    have HD := Lib.hid (head_any (hs3.below (Below.drew (Below.refl _ _))))
    have q11 : w3.cell? ⟨a.g, 11, none⟩ = some (.pointer (some ⟨a.gh, 0, none⟩)) := (st_cells hs3.blk).2.2.2.2.2.2.2.2.2.2.2.1
    clear hs3 hcs
    go_region_with (first
      | (go_at_call 40; refine HD.out.mono ?_; rintro e w4 ⟨⟨g', d', rfl⟩, hb4⟩
         have hb4' := below_then (Below.drew (Below.refl w3.heap.size w3)) (Nat.le_refl _) hb4
         have HS4 := Lib.hid (HS3.out.below hb4')
         have HK4 := Lib.hid (HK03.out.trans (Kept.of hb4' HS3.out.room stT))
         have r11 : w4.cell? ⟨a.g, 11, none⟩ = some (.pointer (some ⟨a.gh, 0, none⟩)) := (st_cells HS4.out.blk).2.2.2.2.2.2.2.2.2.2.2.1
         have s11 : (w4.alloc (.cells #[.int .i64 1, .int .i64 0, .int .i64 200, .slice (some ⟨g', 0, none⟩) 1 (1 + d'), .string ⟨#[]⟩, .string ⟨#[]⟩] 47)).cell? ⟨a.g, 11, none⟩ = some (.pointer (some ⟨a.gh, 0, none⟩)) := (st_cells (HS4.out.below ((Below.refl _ _).alloc (Nat.le_refl _) _)).blk).2.2.2.2.2.2.2.2.2.2.2.1
         clear hb4 hb4')
      | (go_at_call 41; first
          | (refine (Open_yes HS4.out.hold (by omega) HS4.out.room).mono ?_; rintro e w5 ⟨rfl, hh5, hk5⟩
             have HL5 : Hid (Tell (w5.alloc (.cells #[.int .i64 1, .int .i64 0, .int .i64 200, .slice (some ⟨g', 0, none⟩) 1 (1 + d'), .string ⟨#[]⟩, .string ⟨#[]⟩] 47)) w.heap.size (.slice (some ⟨w5.heap.size, 0, none⟩) 1 1) 1) := Lib.hid (Tell.lit (heap_alloc_new w5 _) (HK4.out.trans (hk5.wide (by decide))).below.size rfl rfl rfl rfl rfl rfl)
             have HB5 := Lib.hid ((Below.heap_alloc w5 (.cells #[.int .i64 1, .int .i64 0, .int .i64 200, .slice (some ⟨g', 0, none⟩) 1 (1 + d'), .string ⟨#[]⟩, .string ⟨#[]⟩] 47) _ (blk_lt ((hk5.keep _ _ _ _ HS4.out.blk (by decide)).trans HS4.out.blk))).trans ((hk5.keep _ _ _ _ HS4.out.blk (by decide)).trans HS4.out.blk))
             have HK5 := Lib.hid ((HK4.out.trans (hk5.wide (by decide))).later (w' := w5.alloc (.cells #[.int .i64 1, .int .i64 0, .int .i64 200, .slice (some ⟨g', 0, none⟩) 1 (1 + d'), .string ⟨#[]⟩, .string ⟨#[]⟩] 47)) (((Below.refl _ _).alloc (Nat.le_refl _) _).mono (HK4.out.trans (hk5.wide (by decide))).below.size) HROOM.out)
             clear hh5 hk5)
          | (have hs5 := HS4.out.below ((Below.refl _ _).alloc (Nat.le_refl _) (.cells #[.int .i64 1, .int .i64 0, .int .i64 200, .slice (some ⟨g', 0, none⟩) 1 (1 + d'), .string ⟨#[]⟩, .string ⟨#[]⟩] 47))
             have hk04 := HK4.out.trans (Kept.of ((Below.refl _ _).alloc (Nat.le_refl _) (.cells #[.int .i64 1, .int .i64 0, .int .i64 200, .slice (some ⟨g', 0, none⟩) 1 (1 + d'), .string ⟨#[]⟩, .string ⟨#[]⟩] 47)) HS4.out.room stT)
             have hT := Tell.lit (w := w4.alloc (.cells #[.int .i64 1, .int .i64 0, .int .i64 200, .slice (some ⟨g', 0, none⟩) 1 (1 + d'), .string ⟨#[]⟩, .string ⟨#[]⟩] 47)) (B := w.heap.size) (heap_alloc_new w4 _) HK4.out.below.size rfl rfl rfl rfl rfl rfl
             have hrow := heap_alloc_new w4 (.cells #[.int .i64 1, .int .i64 0, .int .i64 200, .slice (some ⟨g', 0, none⟩) 1 (1 + d'), .string ⟨#[]⟩, .string ⟨#[]⟩] 47)
             refine (Open_yes hs5.hold (by omega) hs5.room).mono ?_; rintro e w5 ⟨rfl, hh5, hk5⟩
             have HL5 : Hid (Tell w5 w.heap.size (.slice (some ⟨w4.heap.size, 0, none⟩) 1 1) 1) := Lib.hid (hT.keep fun j hj => by
               have : w4.heap.size = j := by simpa [Value.ownBlock] using hj
               subst this
               exact hk5.keep _ _ _ _ hrow (by decide))
             have HB5 := Lib.hid ((hk5.keep _ _ _ _ hs5.blk (by decide)).trans hs5.blk)
             have HK5 := Lib.hid (hk04.trans (hk5.wide (by decide)))
             clear hh5 hk5 hs5 hk04 hT hrow))
      | (go_at_call 39; refine (body_any HL5.out (by decide) HK5.out.below.size _).mono ?_; rintro e w6 ⟨⟨A6, n6, c6, rfl, hn6, hm6, ht6⟩, hb6, hg6⟩
         have HT6 := Lib.hid ht6
         have HB6 := Lib.hid ((hg6 _ _ _ _ HB5.out (by decide)).trans HB5.out)
         have HK6 := Lib.hid (HK5.out.later hb6 HROOM.out)
         clear ht6 hb6 hg6))
    all_goals
      go_wp2
      go_ret
      exact ⟨⟨_, _, _, rfl, by omega, by omega, HT6.out⟩, ⟨_, 3, HB6.out, rfl, .inl rfl⟩, hlow, HK6.out⟩
set_option maxRecDepth 100000 in
theorem sEnd_any {w : World} {B : Nat} {a : Ads} {lg : Bool} {came : Nat} {bs : List UInt8} {ph : Nat} (h : Sm w B a lg (wtCells lg a 1 came) bs ph)
    (hs : Calls Tryz.prog 22 #[.pointer (some ⟨a.g, 0, none⟩), .bool true] w fun e w' => Settled w w' B a e) :
    Calls Tryz.prog 10 #[.pointer (some ⟨a.g, 0, none⟩)] w fun e w' => (∃ A n c, e = .returned (.tuple #[.slice A n c, .int .i64 0]) ∧ 1 ≤ n ∧ n ≤ 3 ∧ Tell w' w.heap.size (.slice A n c) n) ∧ Kept w w' B stT := by
  have hnil : ∀ w : World, (binOp BinOp.eql 37 (.pointer (some ⟨a.g, 0, none⟩)) (.pointer none)).run Tryz.prog w = .ok (.bool false) w := fun w => by kernel_rfl
  have HO := Lib.hid (sOpen h)
  have HW := Lib.hid (sWaits h)
  have HS := Lib.hid hs
  have HROOM := Lib.hid h.room
  clear h hs
  go_enter Tryz.func10, Tryz.ntmps10
  go_wp2_with (first
    | (go_at_call 23; refine HO.out.mono ?_; rintro e _ ⟨rfl, rfl⟩)
    | (go_at_call 25; refine HW.out.mono ?_; rintro e _ ⟨rfl, rfl⟩))
  refine HS.out.mono ?_
  rintro e w1 ⟨⟨A, n, c, rfl, hn1, hn2, ht⟩, ⟨cs, st, hc, hc10, hst⟩, hlow, hk⟩
  have k10 : w1.cell? ⟨a.g, 10, none⟩ = some (.int .i64 st) := (cell_of_row _ _ 10 _ _ _ hc).trans hc10
  rcases hst with rfl | rfl
  · have hb2 : Below w1.heap.size w1 (w1.alloc (.cells #[.int .i64 3, .int .i64 0, .int .i64 0, .slice none 0 0, .string ⟨#[]⟩, .string ⟨#[]⟩] 47)) := (Below.refl _ _).alloc (Nat.le_refl _) _
    have HT2 := Lib.hid (ht.below hb2 (Nat.le_refl _))
    have HR : Hid ((w1.alloc (.cells #[.int .i64 3, .int .i64 0, .int .i64 0, .slice none 0 0, .string ⟨#[]⟩, .string ⟨#[]⟩] 47)).heap[w1.heap.size]? = some (.cells #[.int .i64 3, .int .i64 0, .int .i64 0, .slice none 0 0, .string ⟨#[]⟩, .string ⟨#[]⟩] 47 (0, 0))) := Lib.hid (heap_alloc_new w1 _)
    have HB1 : Hid (w.heap.size ≤ (w1.alloc (.cells #[.int .i64 3, .int .i64 0, .int .i64 0, .slice none 0 0, .string ⟨#[]⟩, .string ⟨#[]⟩] 47)).heap.size) := by
      have := hk.below.size
      unfold Hid
      simp
      omega
    have HC2 := Lib.hid ((hb2.block _ (blk_lt hc)).trans hc)
    have HN : Hid (n ≤ 1000) := by unfold Hid; omega
    have HK2 := Lib.hid (hk.later (hb2.mono hk.below.size) HROOM.out)
    have HC10 := Lib.hid hc10
    clear ht hc hc10 hk hb2
    go_wp2_with (at_builtin; refine wpList_tell rfl (.tmp 22) (.tmp 24) rfl rfl HT2.out rfl HR.out rfl rfl rfl rfl rfl rfl HN.out HB1.out ?_; intro A' c' w5 ho hb5 hk5; have HO5 := Lib.hid ho; have HB5 := Lib.hid hb5; have hc5 := (hk5 _ _ _ _ HC2.out (by decide)).trans HC2.out; have HC5 := Lib.hid hc5; have f10 := blk_frozen hc5 10; have k10' : w5.cell? ⟨a.g, 10, none⟩ = some (.int .i64 3) := (cell_of_row _ _ 10 _ _ _ hc5).trans HC10.out; clear ho hb5 hk5 hc5)
    have hap := HO5.out.apart HC5.out (by decide)
    have HO6 : Hid (Tell (w5.setCell ⟨a.g, 10, none⟩ (.int .i64 5)) w.heap.size (.slice A' (n + 1) c') (n + 1)) := Lib.hid (HO5.out.keep fun j hj => Below.heap_setCell w5 ⟨a.g, 10, none⟩ _ j fun e => hap (by rw [hj]; exact congrArg some e))
    have HK6 := Lib.hid ((HK2.out.later HB5.out HROOM.out).trans ((Kept.refl w5 B stT).set_ hlow HC5.out (by decide) 10 (.int .i64 5)))
    go_wp2
    refine bodyPost_ret (v := .tuple #[.slice A' (n + 1) c', .int .i64 0]) (by simp [results, Tryz.results10, go_sem]) rfl ⟨⟨_, _, _, rfl, by omega, by omega, HO6.out⟩, HK6.out⟩
  · have f10 := blk_frozen hc 10
    have hap := ht.apart hc (by decide)
    have HO6 : Hid (Tell (w1.setCell ⟨a.g, 10, none⟩ (.int .i64 5)) w.heap.size (.slice A n c) n) := Lib.hid (ht.keep fun j hj => Below.heap_setCell w1 ⟨a.g, 10, none⟩ _ j fun e => hap (by rw [hj]; exact congrArg some e))
    have HK6 := Lib.hid (hk.trans ((Kept.refl w1 B stT).set_ hlow hc (by decide) 10 (.int .i64 5)))
    clear ht hc hc10 hk hap
    go_wp2
    refine bodyPost_ret (v := .tuple #[.slice A n c, .int .i64 0]) (by simp [results, Tryz.results10, go_sem]) rfl ⟨⟨_, _, _, rfl, hn1, by omega, HO6.out⟩, HK6.out⟩
/-- By the new rules, a remark's end: something is told. -/
theorem end_remark {w : World} {B : Nat} {a : Ads} {came : Nat} {bs : List UInt8} (h : Sm w B a false (wtCells false a 1 came) bs 4) (hn : bs.length < 1445) (hp : Plain ⟨bs.toArray⟩) :
    Calls Tryz.prog 10 #[.pointer (some ⟨a.g, 0, none⟩)] w fun e w' => (∃ A n c, e = .returned (.tuple #[.slice A n c, .int .i64 0]) ∧ 1 ≤ n ∧ n ≤ 3 ∧ Tell w' w.heap.size (.slice A n c) n) ∧ Kept w w' B stT := by
  have hj := judge_new h hn (fun W hW hH => cSniffed_wait hp h.B1 h.hlow hW hH) (by decide) (by decide)
  refine sEnd_any h (settle_any (sn := true) (came := came) (bs := bs) (lg := false) h.room (hj.mono ?_))
  rintro e w' ⟨⟨v, r, p, rfl, hv, _⟩, hs, hk⟩
  exact ⟨⟨v, r, p, rfl, hv⟩, hs, hk⟩
end Go.Proofs.YtlhaaokldjdnnaaGreatDoor
namespace Go.Proofs.YtlhaaokldjdnnaaGreatDoor
open Go.RowKit
set_option linter.unusedVariables false
set_option linter.unusedSimpArgs false
set_option linter.all false

theorem head_new {w : World} {n : Nat} (hn : 1 ≤ n) (h : w.heap[n]? = some (.cells #[.string ⟨#[67, 111, 110, 116, 101, 110, 116, 45, 84, 121, 112, 101]⟩, .string ⟨#[116, 101, 120, 116, 47, 104, 116, 109, 108]⟩] 31 (0, 0))) : Ev.HeadAt w n 0 := by
  refine ⟨hn, _, 31, (0, 0), h, fun j x hx => ?_, fun j _ => by simp, ⟨fun e => absurd e (by decide), fun e he => ⟨?_, fun e => absurd e (by decide)⟩⟩, ?_⟩
  · have hj : j < 2 := (List.getElem?_eq_some_iff.1 hx).1
    rcases (by omega : j = 0 ∨ j = 1) with rfl | rfl
    · obtain rfl : _ = x := Option.some.inj hx
      exact ⟨_, rfl, rfl⟩
    · obtain rfl : _ = x := Option.some.inj hx
      exact ⟨_, rfl, rfl⟩
  · have h32 : Ev.hsz / Ev.mark = 32 := by decide
    rw [h32] at he
    exact (Nat.succ.inj he)
  · have : Ev.st Ev.hsz = 2 := by decide
    rw [this]
    show 0 + 2 + 0 * 2 ≤ 2
    decide
/-- What the end tells: something; and, but for a remark by the new rules, one thing: a block. -/
def EndOk (rem lg : Bool) (w' : World) (e : Ending) (B : Nat) : Prop :=
  ∃ A n c, e = .returned (.tuple #[.slice A n c, .int .i64 0]) ∧ 1 ≤ n ∧ n ≤ 3 ∧ ∃ xs, Rk w' B 47 6 (.slice A n c) n xs ∧ (∀ x ∈ xs, x.oneCell' = true) ∧ ((rem = false ∨ lg = true) → n = 1 ∧ xs[0]? = some (.int .i64 4))
theorem EndOk.block {rem lg : Bool} {w w' : World} {e : Ending} {B : Nat} (h : (∃ n r, e = .returned (.tuple #[.slice (some ⟨n, 0, none⟩) 1 1, .int .i64 0]) ∧ BlockRow w' n r)) : EndOk rem lg w' e 0 := by
  obtain ⟨n, r, he, hr⟩ := h
  refine ⟨_, 1, 1, he, Nat.le_refl _, by decide, [.int .i64 4, .int .i64 0, .int .i64 0, .slice none 0 0, .string ⟨#[]⟩, .string r], ⟨rfl, .inr ⟨n, 0, 1, _, rfl, Nat.zero_le _, hr, Nat.le_refl _, by decide, by simp, fun j u hj => by simpa using hj⟩⟩, fun x hx => ?_, fun _ => ⟨rfl, rfl⟩⟩
  simp at hx
  rcases hx with rfl | rfl | rfl | rfl | rfl | rfl <;> rfl
/-- The end, by whichever rules. -/
theorem end_ok {lg : Bool} {w : World} {B : Nat} {a : Ads} {came : Nat} {s : ByteArray} {ph : Nat} {bl r : List UInt8} (hs : s.size ≤ 1000) (hh : HtmlL (skipL s.data.toList)) (h : Sm w B a lg (wtCells lg a 1 came) s.data.toList ph) (hph : lg = false → ph = runPh 0 s.data.toList) :
    Calls Tryz.prog 10 #[.pointer (some ⟨a.g, 0, none⟩)] w fun e w' => EndOk (remarkB s.data.toList) lg w' e 0 ∧ Kept w w' B stT := by
  have hsz : s.data.toList.length ≤ 1000 := by rw [← Lib.size_eq]; exact hs
  have hss : (⟨s.data.toList.toArray⟩ : ByteArray) = s := by cases s; simp
  obtain ⟨bl, r, hl, hb, hcase⟩ := html_law hh
  have hp : Plain s := by
    obtain ⟨c, t, h1, h2⟩ := plain_of hs hl hb
    refine ⟨hs, c, t, h1, ?_⟩
    rcases h2 with rfl | rfl | rfl | rfl | rfl | rfl <;> decide
  cases lg
  · have hph := hph rfl
    rcases hcase with ⟨hr, h4⟩ | ⟨hr, h5⟩
    · rw [hph, h4] at h
      rw [hr]
      refine (end_remark h (by omega) (by rw [hss]; exact hp)).mono ?_
      rintro e w' ⟨⟨A, n, c, rfl, h1, h3, xs, hx1, hx2⟩, hk⟩
      exact ⟨⟨A, n, c, rfl, h1, h3, xs, hx1.base (Nat.zero_le _), hx2, fun e => by rcases e with e | e <;> cases e⟩, hk⟩
    · rw [hph, h5] at h
      refine (end_new h (by omega) (by rw [hss]; exact hp)).mono ?_
      rintro e w' ⟨he, hk⟩
      exact ⟨EndOk.block (w := w) (B := B) he, hk⟩
  · refine (end_old h (by rw [hss]; exact hp) hh).mono ?_
    rintro e w' ⟨he, hk⟩
    exact ⟨EndOk.block (w := w) (B := B) he, hk⟩
theorem wpList_nil {ops : Array Oper} {rest : List Oper} {o : Oper} {a : Act} {w : World} {Q : Exit → Act → World → Prop} (hgd : o.guard = none) (s x : Operand)
    (ho : o.op = .call { callee := .builtin .append, args := #[s, x], argTypes := #[41, 41] }) (hs : a.eval s = .slice none 0 0) (hx : a.eval x = .slice none 0 0)
    (k : wpList Tryz.prog ops Q rest (a.put o.dst (.slice none 0 0)) w) : wpList Tryz.prog ops Q (o :: rest) a w :=
  wpList_plain hgd fun K hK => by
    obtain ⟨i, hi, hz0, hz1, hz2⟩ := info_parts info47
    have hn : Src Tryz.prog i.size 41 (.slice none 0 0) 0 [] w := Src.ofNil w Tryz.underlying41 0
    have hr : (Builtin.append_ #[41, 41] o.type #[.slice none 0 0, .slice none 0 0]).run Tryz.prog w = .ok (.slice none 0 0) w := by
      rcases hn.kind with ⟨e', hk⟩ | hk <;> simp [Builtin.append_, run_underlying Tryz.underlying41, sizeOf, typeInfo, hi, hn.len, hn.cells]
    unfold Oper.wp execOp
    simp only [ho, resolve, invoke, builtin, Sem.run_bind, Sem.run_pure, Result.andThen_ok, List.map_toArray, List.map_cons, List.map_nil, hs, hx, hr]
    exact hK _ _ k
theorem wpList_gain {ops : Array Oper} {rest : List Oper} {o : Oper} {a : Act} {w : World} {Q : Exit → Act → World → Prop} (hgd : o.guard = none) (s x : Operand)
    (ho : o.op = .call { callee := .builtin .append, args := #[s, x], argTypes := #[41, 41] }) (hs : a.eval s = .slice none 0 0) {B : Nat} {xv : Value} {n : Nat} {xs : List Value} (hx : a.eval x = xv) (hsrc : Src Tryz.prog 6 41 xv n xs w) (hn : n ≤ 1000) (hB : B ≤ w.heap.size)
    (k : ∀ A' c' w', Rk w' B 47 6 (.slice A' n c') n xs → Below B w w' → wpList Tryz.prog ops Q rest (a.put o.dst (.slice A' n c')) w') : wpList Tryz.prog ops Q (o :: rest) a w := by
  obtain ⟨i, hi, hz0, hz1, hz2⟩ := info_parts info47
  refine wpList_append_rk hgd s x 41 ho B 47 i outZ 6 Tryz.underlying41 hi hz0 hz1 (by omega) rfl (.slice none 0 0) 0 [] hs (Rk.nil_ _ _ _ _) xv n xs hx hsrc (by omega) hB fun A' c' w' hr hg hown => ?_
  rw [Nat.zero_add] at hr ⊢
  exact k A' c' w' hr ((Below.refl B w).grown hg hB fun b hb => by simp [Value.ownBlock] at hb)
end Go.Proofs.YtlhaaokldjdnnaaGreatDoor
namespace Go.Proofs.YtlhaaokldjdnnaaGreatDoor
open Go.RowKit
set_option linter.unusedVariables false
set_option linter.unusedSimpArgs false
set_option linter.all false

theorem drop_eq (s : ByteArray) (K : Nat) : (s.extract K s.size).data.toList = s.data.toList.drop K := by
  rw [Lib.extract_data, List.take_of_length_le]
  rw [List.length_drop, ← Lib.size_eq]
  exact Nat.le_refl _
set_option maxRecDepth 100000 in
set_option maxHeartbeats 16000000 in
theorem walk_told (s : ByteArray) (lg : Bool) (cut : Int) (W : World) (hs : s.size ≤ maxLen) (hc0 : 0 ≤ cut) (hc1 : cut ≤ 65535) (hw : Ev.Told W) :
    Calls Tryz.prog 3 #[.string s, .bool lg, .int .u16 cut] W fun e W' => e = .returned (.bool true) ∧ Below W.heap.size W W' := by
  have HCut := cut_is s hs W
  have hts := cutT_size s
  obtain ⟨t, ht⟩ : ∃ t, cutT s = t := ⟨_, rfl⟩
  rw [ht] at HCut hts
  have HCut := Lib.hid HCut
  clear ht
  have HH := Lib.hid (rHtml_is t (by omega) W hw)
  have HL : Hid (∀ W, Ev.Told W → Calls Tryz.prog 6 #[] W fun x w' => x = .returned (.bool true) ∧ Below W.heap.size W w') := Lib.hid fun W hW => Ev.said_at Ev.lives_is rfl rfl W hW
  have HW := Lib.hid hw
  have hB1 : 1 ≤ W.heap.size := hw.1
  clear hw hs
  go_enter Tryz.func3, Tryz.ntmps3
  go_wp2_with (go_at_call 4; refine HCut.out.mono ?_; rintro e _ ⟨rfl, rfl⟩)
  refine HH.out.mono ?_
  rintro e w1 ⟨⟨b, rfl, hb⟩, hb1⟩
  have HW1 := Lib.hid (told_below HW.out hb1)
  cases b
  · have HB := Lib.hid hb1
    clear hb hb1
    go_wp2_with (go_at_call 6; refine (HL.out _ HW1.out).mono ?_; rintro e w2 ⟨rfl, hb2⟩; have HB2 := Lib.hid (below_then HB.out (Nat.le_refl _) hb2); clear hb2)
    go_ret
    exact ⟨rfl, HB2.out⟩
  · have HHT := Lib.hid (hb rfl)
    have HB := Lib.hid hb1
    clear hb hb1 HCut HH
    go_wp2_with fail
    obtain ⟨W2, hW2⟩ : ∃ W2, (w1.alloc (.cells #[.string ⟨#[67, 111, 110, 116, 101, 110, 116, 45, 84, 121, 112, 101]⟩, .string ⟨#[116, 101, 120, 116, 47, 104, 116, 109, 108]⟩] 31)).alloc (.cells #[.bool lg, .int .i64 1445, .int .i64 9, .string ⟨#[]⟩, .bool true, .bool true, .int .i64 0, .int .i64 200, .slice (some ⟨w1.heap.size, 0, none⟩) 1 1, .bool false] 36) = W2 := ⟨_, rfl⟩
    have hb2 : Below w1.heap.size w1 W2 := by rw [← hW2]; exact ((Below.refl _ _).alloc (Nat.le_refl _) _).alloc (by simp) _
    have hr0 : W2.heap[w1.heap.size]? = some (.cells #[.string ⟨#[67, 111, 110, 116, 101, 110, 116, 45, 84, 121, 112, 101]⟩, .string ⟨#[116, 101, 120, 116, 47, 104, 116, 109, 108]⟩] 31 (0, 0)) := by rw [← hW2]; exact (Below.heap_alloc _ _ _ (by simp)).trans (heap_alloc_new w1 _)
    have hr1 : W2.heap[w1.heap.size + 1]? = some (.cells #[.bool lg, .int .i64 1445, .int .i64 9, .string ⟨#[]⟩, .bool true, .bool true, .int .i64 0, .int .i64 200, .slice (some ⟨w1.heap.size, 0, none⟩) 1 1, .bool false] 36 (0, 0)) := by
      rw [← hW2]
      have := heap_alloc_new (w1.alloc (.cells #[.string ⟨#[67, 111, 110, 116, 101, 110, 116, 45, 84, 121, 112, 101]⟩, .string ⟨#[116, 101, 120, 116, 47, 104, 116, 109, 108]⟩] 31)) (.cells #[.bool lg, .int .i64 1445, .int .i64 9, .string ⟨#[]⟩, .bool true, .bool true, .int .i64 0, .int .i64 200, .slice (some ⟨w1.heap.size, 0, none⟩) 1 1, .bool false] 36)
      rwa [World.size_alloc] at this
    have HWB2 := Lib.hid (below_then HB.out (Nat.le_refl _) hb2)
    have HT2 := Lib.hid (told_below HW1.out hb2)
    have hWw1 : W.heap.size ≤ w1.heap.size := HB.out.size
    have HH2 := Lib.hid (head_new (n := w1.heap.size) (by omega) hr0)
    have HR1 := Lib.hid hr1
    have k := fun i => cell_of_row W2 (w1.heap.size + 1) i _ _ _ hr1
    have c0 : W2.cell? ⟨w1.heap.size + 1, 0, none⟩ = some (.bool lg) := k 0
    have c1 : W2.cell? ⟨w1.heap.size + 1, 1, none⟩ = some (.int .i64 1445) := k 1
    have c2 : W2.cell? ⟨w1.heap.size + 1, 2, none⟩ = some (.int .i64 9) := k 2
    have c3 : W2.cell? ⟨w1.heap.size + 1, 3, none⟩ = some (.string ⟨#[]⟩) := k 3
    have c4 : W2.cell? ⟨w1.heap.size + 1, 4, none⟩ = some (.bool true) := k 4
    have c5 : W2.cell? ⟨w1.heap.size + 1, 5, none⟩ = some (.bool true) := k 5
    have c6 : W2.cell? ⟨w1.heap.size + 1, 6, none⟩ = some (.int .i64 0) := k 6
    have HN := Lib.hid (sNew lg W2 HT2.out W.heap.size (HWB2.out.size) hB1)
    clear k hr0 hr1 hb2
    rw [hW2]
    go_wp2_with fail
    clear c0 c1 c2 c3 c4 c5 c6 hW2
    refine HN.out.mono ?_
    rintro e w3 ⟨⟨g, gh, q, gl, jb, sb, rfl, hg, hblk, hhol, hlex⟩, hb3⟩
    have hr3 := (hb3.block _ (blk_lt HR1.out)).trans HR1.out
    have c7 : w3.cell? ⟨w1.heap.size + 1, 7, none⟩ = some (.int .i64 200) := cell_of_row _ _ 7 _ _ _ hr3
    have c8 : w3.cell? ⟨w1.heap.size + 1, 8, none⟩ = some (.slice (some ⟨w1.heap.size, 0, none⟩) 1 1) := cell_of_row _ _ 8 _ _ _ hr3
    have hnil : ∀ w : World, (binOp BinOp.eql 37 (.pointer (some ⟨g, 0, none⟩)) (.pointer none)).run Tryz.prog w = .ok (.bool false) w := fun w => by kernel_rfl
    have HWB3 := Lib.hid (below_then HWB2.out (Nat.le_refl _) hb3)
    have HT3 := Lib.hid (told_below HT2.out hb3)
    have HHD := Lib.hid (sHead (d0 := 0) hB1 HT3.out hg hblk hhol hlex (HH2.out.same (hb3.block _ HH2.out.lt)))
    clear hb3 hr3 hblk hhol hlex
    obtain ⟨K, hK, hKs⟩ : ∃ K : Nat, Int.tmod cut ((t.size : Int) + 1) = (K : Int) ∧ K ≤ t.size := by
      refine ⟨(Int.tmod cut ((t.size : Int) + 1)).toNat, ?_, ?_⟩
      · have := Int.tmod_nonneg ((t.size : Int) + 1) hc0
        omega
      · have := Int.tmod_lt_of_pos cut (by omega : (0 : Int) < (t.size : Int) + 1)
        omega
    have hwr1 : IntKind.i64.wrap cut = cut := IntWalk.i64_in _ (by omega)
    have hwr2 : IntKind.i64.wrap ((t.size : Int) + 1) = (t.size : Int) + 1 := IntWalk.i64_in _ (by omega)
    have hwr3 : IntKind.i64.wrap (K : Int) = (K : Int) := IntWalk.i64_in _ (by omega)
    have hpos : ((t.size : Int) + 1 == 0) = false := by
      have : ¬ (t.size : Int) + 1 = 0 := by omega
      simpa using this
    have hpos2 : ¬ ((t.size : Int) + 1 = 0) := by omega
    have hKi : (K : Int) ≤ (t.size : Int) := by omega
    go_wp2_with fail
    refine HHD.out.mono ?_
    rintro e w4 ⟨rfl, ⟨g1, d1, hsm⟩, hk4⟩
    obtain ⟨bl, r, hl, hbl, hcase⟩ := html_law HHT.out
    have hx1 : (t.extract 0 K).data.toList = t.data.toList.take K := take_eq t K
    have hx2 : (t.extract K t.size).data.toList = t.data.toList.drop K := drop_eq t K
    have hz1 : (t.extract 0 K).size ≤ 100 := by simp; omega
    have hz2 : (t.extract K t.size).size ≤ 100 := by simp; omega
    have HCH1 := Lib.hid (sChunkAll hsm (t.extract 0 K) (by omega) (by simp; omega) (by omega) (fun _ => feed_first hl hbl hx1))
    have HK4 := Lib.hid hk4
    have HX1 := Lib.hid hx1
    have HX2 := Lib.hid hx2
    have HF2 := Lib.hid (fun (k : Nat) (hk : k < (t.extract K t.size).size) => feed_second hl hbl hx2 k hk)
    clear hk4 hx1 hx2 hsm hl hbl hcase c7 c8 HHD
    go_wp2_with fail
    refine HCH1.out.mono ?_
    rintro e w5 ⟨rfl, hsm5, hk5⟩
    have hph5 : phOf lg 0 (t.extract 0 K).data.toList ≤ 5 := by
      unfold phOf
      split
      · omega
      · exact runPh_le _ _ (by omega)
    have HCH2 := Lib.hid (sChunkAll hsm5 (t.extract K t.size) (by omega) (by
      rw [List.nil_append, ← Lib.size_eq]
      omega) hph5 (fun e => by
      subst e
      have h := HF2.out
      rw [← HX1.out] at h
      exact h))
    have HK5 := Lib.hid (HK4.out.trans hk5)
    clear hsm5 hk5 HCH1 hph5
    go_wp2_with fail
    refine HCH2.out.mono ?_
    rintro e w6 ⟨rfl, hsm6, hk6⟩
    have hbs : [] ++ (t.extract 0 K).data.toList ++ (t.extract K t.size).data.toList = t.data.toList := by
      rw [HX1.out, HX2.out, List.nil_append, List.take_append_drop]
    rw [hbs] at hsm6
    have HE := Lib.hid (end_ok (bl := []) (r := []) (by omega) HHT.out hsm6 (fun e => by
      subst e
      show runPh (runPh 0 (t.extract 0 K).data.toList) (t.extract K t.size).data.toList = _
      rw [← runPh_append, HX1.out, HX2.out, List.take_append_drop]))
    have HK6 := Lib.hid (HK5.out.trans hk6)
    clear hsm6 hk6 HCH2 hbs HX1 HX2 HF2
    go_wp2_with fail
    refine HE.out.mono ?_
    rintro e w7 ⟨⟨A, n, c, rfl, hn1, hn3, xs, hx, hone, hlaw⟩, hk7⟩
    have HK7 := Lib.hid (HK6.out.trans hk7)
    have HSRC := Lib.hid ((hx.rd (.inl (by decide))).src Tryz.underlying41 hone)
    have HLAW := Lib.hid hlaw
    have HWB7 := Lib.hid (HWB3.out.trans HK7.out.below)
    have HNn : Hid (n ≤ 1000) := by unfold Hid; omega
    have HSZ7 := Lib.hid HWB7.out.size
    have HRM := Lib.hid (fun w => tRemark_is t (by omega) w)
    clear hk7 hx hlaw HE hn3
    obtain ⟨rm, hrm⟩ : ∃ rm, remarkB t.data.toList = rm := ⟨_, rfl⟩
    rw [hrm] at HLAW HRM
    clear hrm
    cases rm
    · obtain ⟨rfl, hx0⟩ := HLAW.out (.inl rfl)
      have HX0 := Lib.hid hx0
      clear hx0
      go_wp2_with (first
        | (at_builtin; refine wpList_nil rfl (.tmp 80) (.tmp 81) rfl rfl rfl ?_)
        | (at_builtin; refine wpList_nil rfl (.tmp 82) (.tmp 83) rfl rfl rfl ?_)
        | (at_builtin; refine wpList_gain rfl (.tmp 84) (.tmp 85) rfl rfl rfl HSRC.out HNn.out HSZ7.out ?_; intro A' c' w8 hr8 hb8; obtain ⟨g8, o8, cap8, hv8, _, _, hg8, _, _⟩ := (hr8.rd (.inl (by decide))).get (j := 0) (by decide); cases hv8; obtain ⟨u8, hu8, hcu8⟩ := hg8 0 (by decide); have hu8' : u8 = .int .i64 4 := Option.some.inj (hu8.symm.trans HX0.out); rw [hu8'] at hcu8; have c8 : w8.cell? ⟨g8, o8, none⟩ = some (.int .i64 4) := hcu8; clear hcu8 hg8; have HB8 := Lib.hid (HWB7.out.trans hb8); have HT8 := Lib.hid (told_below' HW.out (HWB7.out.trans hb8) hB1); clear hr8 hb8)
        | (go_at_call 11; refine (HRM.out _).mono ?_; rintro e _ ⟨rfl, rfl⟩)
        | (go_at_call 6; refine (HL.out _ HT8.out).mono ?_; rintro e w9 ⟨rfl, hb9⟩; have HB9 := Lib.hid (below_then HB8.out (Nat.le_refl _) (hb9.mono (Nat.le_refl _))); clear hb9))
      go_ret
      exact ⟨rfl, HB9.out⟩
    · cases lg
      · have i1 : (0 : Int) < (n : Int) := by omega
        go_wp2_with (first
          | (at_builtin; refine wpList_nil rfl (.tmp 80) (.tmp 81) rfl rfl rfl ?_)
          | (at_builtin; refine wpList_nil rfl (.tmp 82) (.tmp 83) rfl rfl rfl ?_)
          | (at_builtin; refine wpList_gain rfl (.tmp 84) (.tmp 85) rfl rfl rfl HSRC.out HNn.out HSZ7.out ?_; intro A' c' w8 hr8 hb8; have HB8 := Lib.hid (HWB7.out.trans hb8); have HT8 := Lib.hid (told_below' HW.out (HWB7.out.trans hb8) hB1); clear hr8 hb8)
          | (go_at_call 11; refine (HRM.out _).mono ?_; rintro e _ ⟨rfl, rfl⟩)
          | (go_at_call 6; refine (HL.out _ HT8.out).mono ?_; rintro e w9 ⟨rfl, hb9⟩; have HB9 := Lib.hid (below_then HB8.out (Nat.le_refl _) (hb9.mono (Nat.le_refl _))); clear hb9))
        go_ret
        exact ⟨rfl, HB9.out⟩
      · obtain ⟨rfl, hx0⟩ := HLAW.out (.inr rfl)
        have HX0 := Lib.hid hx0
        clear hx0
        go_wp2_with (first
          | (at_builtin; refine wpList_nil rfl (.tmp 80) (.tmp 81) rfl rfl rfl ?_)
          | (at_builtin; refine wpList_nil rfl (.tmp 82) (.tmp 83) rfl rfl rfl ?_)
          | (at_builtin; refine wpList_gain rfl (.tmp 84) (.tmp 85) rfl rfl rfl HSRC.out HNn.out HSZ7.out ?_; intro A' c' w8 hr8 hb8; obtain ⟨g8, o8, cap8, hv8, _, _, hg8, _, _⟩ := (hr8.rd (.inl (by decide))).get (j := 0) (by decide); cases hv8; obtain ⟨u8, hu8, hcu8⟩ := hg8 0 (by decide); have hu8' : u8 = .int .i64 4 := Option.some.inj (hu8.symm.trans HX0.out); rw [hu8'] at hcu8; have c8 : w8.cell? ⟨g8, o8, none⟩ = some (.int .i64 4) := hcu8; clear hcu8 hg8; have HB8 := Lib.hid (HWB7.out.trans hb8); have HT8 := Lib.hid (told_below' HW.out (HWB7.out.trans hb8) hB1); clear hr8 hb8)
          | (go_at_call 11; refine (HRM.out _).mono ?_; rintro e _ ⟨rfl, rfl⟩)
          | (go_at_call 6; refine (HL.out _ HT8.out).mono ?_; rintro e w9 ⟨rfl, hb9⟩; have HB9 := Lib.hid (below_then HB8.out (Nat.le_refl _) (hb9.mono (Nat.le_refl _))); clear hb9))
        go_ret
        exact ⟨rfl, HB9.out⟩
end Go.Proofs.YtlhaaokldjdnnaaGreatDoor
