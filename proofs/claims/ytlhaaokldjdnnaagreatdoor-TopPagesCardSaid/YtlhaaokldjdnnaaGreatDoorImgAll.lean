/-
  Parts, one behind the other: Layer 13 (image): the table of pictures. No condition. | Layers 6, 13, 21: a text whose first byte no picture begins with is none. No condition but that the text is not too long, and the tables lie as they were laid. | Layer 28 (corb): breakers. No condition.
-/
import Derived.Test.YtlhaaokldjdnnaaGreatDoorEvCheckAll
import Derived.Test.YtlhaaokldjdnnaaGreatDoorRiff
import Derived.Test.YtlhaaokldjdnnaaGreatDoorShelf
import Derived.Test.YtlhaaokldjdnnaaGreatDoorMask2
import Derived.Test.YtlhaaokldjdnnaaGreatDoorMaskAll
namespace Go.Proofs.YtlhaaokldjdnnaaGreatDoor.Ev
open Go.RowKit
set_option linter.unusedVariables false
set_option linter.unusedSimpArgs false
set_option linter.all false
set_option maxRecDepth 1000000
def rep255 (n : Nat) : Ent := ⟨355, [tx [255], nu n], tx (List.replicate n 255)⟩
theorem rep_said (n : Nat) (hn : n ≤ 1000) : Said (rep255 n) := by
  refine ⟨[.string ⟨#[255]⟩, .int .i64 n], .string ⟨(Lib.repeatL [255] n).toArray⟩, rfl, ?_, fun w hw => ?_⟩
  · have : Lib.repeatL [255] n = (List.replicate n 255).map UInt8.ofNat := by
      induction n with
      | zero => rfl
      | succ n ih => rw [Lib.repeatL, ih (by omega)]; rfl
    rw [this]
    rfl
  · exact Tryz.strings_Repeat ⟨#[255]⟩ n w (by omega) (by show 1 * n ≤ _; omega)
def vS (b : ByteArray) : BV := .k (.string b)
def riffE : Ent := ⟨449, [plain (.string riffB), plain (.string webpB), plain (.string webpT)], .val ⟨true, [vS riffAll, vS riffMask, vS .empty, vS webpT]⟩⟩
theorem riffE_said : Said riffE := ⟨[.string riffB, .string webpB, .string webpT], patV riffAll riffMask .empty webpT, rfl, rfl, fun w hw => riff_is w⟩
def imageTable : List (List UInt8) := [[0, 0, 1, 0], [255, 255, 255, 255], [], [105, 109, 97, 103, 101, 47, 120, 45, 105, 99, 111, 110], [0, 0, 2, 0], [255, 255, 255, 255], [], [105, 109, 97, 103, 101, 47, 120, 45, 105, 99, 111, 110], [66, 77], [255, 255], [], [105, 109, 97, 103, 101, 47, 98, 109, 112], [71, 73, 70, 56, 55, 97], [255, 255, 255, 255, 255, 255], [], [105, 109, 97, 103, 101, 47, 103, 105, 102], [71, 73, 70, 56, 57, 97], [255, 255, 255, 255, 255, 255], [], [105, 109, 97, 103, 101, 47, 103, 105, 102], [82, 73, 70, 70, 0, 0, 0, 0, 87, 69, 66, 80, 86, 80], [255, 255, 255, 255, 0, 0, 0, 0, 255, 255, 255, 255, 255, 255], [], [105, 109, 97, 103, 101, 47, 119, 101, 98, 112], [137, 80, 78, 71, 13, 10, 26, 10], [255, 255, 255, 255, 255, 255, 255, 255], [], [105, 109, 97, 103, 101, 47, 112, 110, 103], [255, 216, 255], [255, 255, 255], [], [105, 109, 97, 103, 101, 47, 106, 112, 101, 103]]
theorem table_is (w : World) (hw : Told w) : Calls Tryz.prog 425 #[] w fun e w' => (∃ g off cap, e = .returned (.slice (some ⟨g, off, none⟩) 8 cap) ∧ w.heap.size ≤ g ∧ ∀ j s, imageTable[j]? = some s → w'.cell? ⟨g, off + j, none⟩ = some (.string ⟨s.toArray⟩)) ∧ Below w.heap.size w w' :=
  quad_of (l := [riffE, rep255 2, rep255 3, rep255 4, rep255 6, rep255 8, rep255 14]) (all_cons riffE_said (all_cons (rep_said _ (by decide)) (all_cons (rep_said _ (by decide)) (all_cons (rep_said _ (by decide)) (all_cons (rep_said _ (by decide)) (all_cons (rep_said _ (by decide)) (all_cons (rep_said _ (by decide)) all_nil))))))) (args := []) rfl (by kernel_rfl) w hw
end Go.Proofs.YtlhaaokldjdnnaaGreatDoor.Ev
namespace Go.Proofs.YtlhaaokldjdnnaaGreatDoor
open Go.RowKit
set_option linter.unusedVariables false
set_option linter.unusedSimpArgs false
set_option linter.all false

/-- First bytes that begin neither a picture, nor a sound, nor a film. -/
def plainB (c : UInt8) : Bool := c == 9 || c == 10 || c == 12 || c == 13 || c == 32 || c == 60 || c == 120
theorem no_match {s b m : ByteArray} {c x : UInt8} {r1 r2 r3 : List UInt8} (hs : s.data.toList = c :: r1) (hb : b.data.toList = x :: r2) (hm : m.data.toList = 255 :: r3) (h : (c == x) = false) : matchB s b m .empty = false := by
  unfold matchB
  have h0 : padN s.data.toList (ByteArray.empty).data.toList = 0 := by rw [hs]; rfl
  rw [h0, List.drop_zero, hs, hb, hm]
  have hc : (c &&& 255 == x) = false := by
    have : c &&& 255 = c := by
      apply UInt8.toNat_inj.1
      rw [UInt8.toNat_and]
      have := UInt8.toNat_lt c
      show c.toNat &&& 255 = c.toNat
      exact Nat.and_two_pow_sub_one_of_lt_two_pow (n := 8) (by omega)
    rw [this, h]
  unfold fitB
  rw [hc]
  simp
theorem find1_is (s b m k t : ByteArray) (p : Addr) (w : World) (hs : s.size ≤ 1000000) (hp : w.cell? p = some (.string s)) : Calls Tryz.prog 465 #[patV b m k t, .pointer (some p)] w fun e w' => e = .returned (.bool (matchB s b m k)) ∧ Below w.heap.size w w' := by
  have H1 := Lib.hid (fun W => match_is s b m k t W hs)
  have hp2 : (w.alloc (.cells #[.string b, .string m, .string k, .string t] 271)).cell? p = some (.string s) := (World.cell?_of_block (Below.heap_alloc w _ _ (lt_of_cell hp))).trans hp
  go_enter Tryz.func465, Tryz.ntmps465
  go_wp2_with (go_at_call 352; refine (H1.out _).mono ?_; rintro e w1 ⟨rfl, hb1⟩; have HB1 := Lib.hid hb1; clear hb1)
  go_ret
  exact ⟨rfl, below_then ((Below.refl _ _).alloc (Nat.le_refl _) _) (Nat.le_refl _) HB1.out⟩
/-- None of those elements matches. -/
def NoneAt (w : World) (g off n : Nat) (s : ByteArray) : Prop := ∀ i, i < n → ∃ b m k t : ByteArray, w.cell? ⟨g, off + i * 4, none⟩ = some (.string b) ∧ w.cell? ⟨g, off + i * 4 + 1, none⟩ = some (.string m) ∧ w.cell? ⟨g, off + i * 4 + 2, none⟩ = some (.string k) ∧ w.cell? ⟨g, off + i * 4 + 3, none⟩ = some (.string t) ∧ matchB s b m k = false
theorem NoneAt.below {w w' : World} {g off n : Nat} {s : ByteArray} (h : NoneAt w g off n s) (hb : Below w.heap.size w w') : NoneAt w' g off n s := fun i hi => by
  obtain ⟨b, m, k, t, h0, h1, h2, h3, h4⟩ := h i hi
  have kk := fun (a : Addr) (v : Value) (hv : w.cell? a = some v) => (World.cell?_of_block (hb.block a.block (lt_of_cell hv))).trans hv
  exact ⟨b, m, k, t, kk _ _ h0, kk _ _ h1, kk _ _ h2, kk _ _ h3, h4⟩
set_option maxRecDepth 100000 in
set_option maxHeartbeats 1000000 in
theorem index_none (s : ByteArray) (g off n cap : Nat) (p : Addr) (w : World) (hs : s.size ≤ 1000000) (hn : n ≤ 1000) (hp : w.cell? p = some (.string s)) (h : NoneAt w g off n s) :
    Calls Tryz.prog 464 #[.slice (some ⟨g, off, none⟩) n cap, .func (.func 465) #[] #[.pointer (some p)]] w fun e w' => e = .returned (.int .i64 (-1)) ∧ Below w.heap.size w w' := by
  have HN := Lib.hid h
  have HP := Lib.hid hp
  clear h hp
  go_enter Tryz.func464, Tryz.ntmps464
  go_wp2
  go_loopw [8] (fun i wr => ∃ k : Nat, i = .int .i64 k ∧ k ≤ n ∧ Hid (Below w.heap.size w wr)) (fun i _ => n - (intOf i).toNat)
  case atStart => exact ⟨0, rfl, Nat.zero_le _, Below.refl _ _⟩
  case round =>
    obtain ⟨i, rfl, hi, hb⟩ := hrel
    rcases Nat.lt_or_ge i n with hlt | hge
    · obtain ⟨b, m, k, t, h0, h1, h2, h3, h4⟩ := HN.out.below hb.out i hlt
      have hpr : wr.cell? p = some (.string s) := (World.cell?_of_block (hb.out.block p.block (lt_of_cell HP.out))).trans HP.out
      have HF := Lib.hid (find1_is s b m k t p wr hs hpr)
      rw [h4] at HF
      have i1 : (i : Int) < (n : Int) := by omega
      clear hpr h4
      go_wp2_with (go_at_call 465; refine HF.out.mono ?_; rintro e w1 ⟨rfl, hb1⟩; have HB1 := Lib.hid (below_then hb.out (Nat.le_refl _) hb1); clear hb1)
      go_roundw
      case rel => exact ⟨i + 1, by go_num, by omega, HB1⟩
      case measure => simp [intOf]; omega
    · obtain rfl : i = n := by omega
      go_wp2
      go_ret
      exact ⟨rfl, hb.out⟩

theorem mfind_none (s : ByteArray) (g off n cap : Nat) (w : World) (hs : s.size ≤ 1000000) (hn : n ≤ 1000) (h : NoneAt w g off n s) :
    Calls Tryz.prog 447 #[.string s, .slice (some ⟨g, off, none⟩) n cap] w fun e w' => e = .returned (.int .i64 (-1)) ∧ Below w.heap.size w w' := by
  have h1 := h.below ((Below.refl w.heap.size w).alloc (Nat.le_refl _) (.cells #[.string s] 9))
  have HI := Lib.hid (index_none s g off n cap ⟨w.heap.size, 0, none⟩ _ hs hn (by rw [World.cell?_alloc_new]; rfl) h1)
  have hmf : ∀ (fn : Fn) (first cap : Array Value) (w : World), (Instr.makeFunc fn first cap).run Tryz.prog w = .ok (.func fn first cap) w := fun _ _ _ _ => rfl
  clear h h1
  go_enter Tryz.func447, Tryz.ntmps447
  go_wp2_with (go_at_call 464; refine HI.out.mono ?_; rintro e w1 ⟨rfl, hb1⟩; have HB1 := Lib.hid hb1; clear hb1)
  go_ret
  exact ⟨rfl, below_then ((Below.refl _ _).alloc (Nat.le_refl _) _) (Nat.le_refl _) HB1.out⟩
theorem mtype_none (s : ByteArray) (g off n cap : Nat) (w : World) (hs : s.size ≤ 1000000) (hn : n ≤ 1000) (h : NoneAt w g off n s) :
    Calls Tryz.prog 424 #[.string s, .slice (some ⟨g, off, none⟩) n cap] w fun e w' => e = .returned (.string .empty) ∧ Below w.heap.size w w' := by
  have HI := Lib.hid (mfind_none s g off n cap w hs hn h)
  clear h
  go_enter Tryz.func424, Tryz.ntmps424
  go_wp2_with (go_at_call 447; refine HI.out.mono ?_; rintro e w1 ⟨rfl, hb1⟩; have HB1 := Lib.hid hb1; clear hb1)
  go_ret
  exact ⟨rfl, HB1.out⟩
/-- A text that begins with a byte with which nothing begins. -/
def Plain (s : ByteArray) : Prop := s.size ≤ 1000 ∧ ∃ c r, s.data.toList = c :: r ∧ plainB c = true
theorem table_none {s : ByteArray} (h : Plain s) {w : World} {g off : Nat} (hc : ∀ j x, Ev.imageTable[j]? = some x → w.cell? ⟨g, off + j, none⟩ = some (.string ⟨x.toArray⟩)) : NoneAt w g off 8 s := by
  obtain ⟨_, c, r, hs, hp⟩ := h
  have key : ∀ (i : Nat) (b m t : List UInt8) (x : UInt8) (r2 r3 : List UInt8), Ev.imageTable[i * 4]? = some b → Ev.imageTable[i * 4 + 1]? = some m → Ev.imageTable[i * 4 + 2]? = some [] → Ev.imageTable[i * 4 + 3]? = some t → b = x :: r2 → m = 255 :: r3 → (c == x) = false →
      ∃ b m k t : ByteArray, w.cell? ⟨g, off + i * 4, none⟩ = some (.string b) ∧ w.cell? ⟨g, off + i * 4 + 1, none⟩ = some (.string m) ∧ w.cell? ⟨g, off + i * 4 + 2, none⟩ = some (.string k) ∧ w.cell? ⟨g, off + i * 4 + 3, none⟩ = some (.string t) ∧ matchB s b m k = false := by
    intro i b m t x r2 r3 h0 h1 h2 h3 hb hm hx
    exact ⟨⟨b.toArray⟩, ⟨m.toArray⟩, .empty, ⟨t.toArray⟩, hc _ _ h0, hc _ _ h1, hc _ _ h2, hc _ _ h3, no_match (r2 := r2) (r3 := r3) hs hb hm hx⟩
  have hx : ∀ x : UInt8, plainB x = false → (c == x) = false := fun x hx => by
    cases hcx : (c == x)
    · rfl
    · have : c = x := by simpa using hcx
      rw [this, hx] at hp
      cases hp
  intro i hi
  match i, hi with
  | 0, _ => exact key 0 _ _ _ 0 _ _ rfl rfl rfl rfl rfl rfl (hx _ (by decide))
  | 1, _ => exact key 1 _ _ _ 0 _ _ rfl rfl rfl rfl rfl rfl (hx _ (by decide))
  | 2, _ => exact key 2 _ _ _ 66 _ _ rfl rfl rfl rfl rfl rfl (hx _ (by decide))
  | 3, _ => exact key 3 _ _ _ 71 _ _ rfl rfl rfl rfl rfl rfl (hx _ (by decide))
  | 4, _ => exact key 4 _ _ _ 71 _ _ rfl rfl rfl rfl rfl rfl (hx _ (by decide))
  | 5, _ => exact key 5 _ _ _ 82 _ _ rfl rfl rfl rfl rfl rfl (hx _ (by decide))
  | 6, _ => exact key 6 _ _ _ 137 _ _ rfl rfl rfl rfl rfl rfl (hx _ (by decide))
  | 7, _ => exact key 7 _ _ _ 255 _ _ rfl rfl rfl rfl rfl rfl (hx _ (by decide))
theorem ikind_none {s : ByteArray} (h : Plain s) (w : World) (hw : Ev.Told w) : Calls Tryz.prog 397 #[.string s] w fun e w' => e = .returned (.string .empty) ∧ Below w.heap.size w w' := by
  have HT := Lib.hid (Ev.table_is w hw)
  have HH := Lib.hid h
  clear h hw
  go_enter Tryz.func397, Tryz.ntmps397
  go_wp2_with (first
    | (go_at_call 425; refine HT.out.mono ?_; rintro e w1 ⟨⟨g, off, cap, rfl, hg, hc⟩, hb1⟩; have HM := Lib.hid (mtype_none s g off 8 cap w1 (by have := HH.out.1; omega) (by decide) (table_none HH.out hc)); have HB1 := Lib.hid hb1; clear hb1 hc)
    | (go_at_call 424; refine HM.out.mono ?_; rintro e w2 ⟨rfl, hb2⟩; have HB2 := Lib.hid (below_then HB1.out (Nat.le_refl _) hb2); clear hb2))
  go_ret
  exact ⟨rfl, HB2.out⟩
theorem itype_none {s : ByteArray} (h : Plain s) (w : World) (hw : Ev.Told w) : Calls Tryz.prog 360 #[.string s] w fun e w' => e = .returned (.string .empty) ∧ Below w.heap.size w w' := by
  have HT := Lib.hid (ikind_none h w hw)
  clear h hw
  go_enter Tryz.func360, Tryz.ntmps360
  go_wp2_with (go_at_call 397; refine HT.out.mono ?_; rintro e w1 ⟨rfl, hb1⟩; have HB1 := Lib.hid hb1; clear hb1)
  go_ret
  exact ⟨rfl, HB1.out⟩
theorem bcut_is (s : ByteArray) (h : s.size ≤ 1000) (w : World) : Calls Tryz.prog 122 #[.string s] w fun e w' => e = .returned (.string s) ∧ w = w' := by
  have hm : min (s.size : Int) 1445 = (s.size : Int) := by omega
  have hx := extract_all s s.size (Nat.le_refl _)
  have i1 : (s.size : Int) ≤ 1445 := by omega
  go_enter Tryz.func122, Tryz.ntmps122
  go_wp2
  go_ret
  exact ⟨ret_string (by first | exact hx | simpa using hx), rfl⟩
theorem picture_none {s : ByteArray} (h : Plain s) (w : World) (hw : Ev.Told w) : Calls Tryz.prog 307 #[.string s] w fun e w' => e = .returned (.string .empty) ∧ Below w.heap.size w w' := by
  have HT := Lib.hid (itype_none h w hw)
  have HC := Lib.hid (bcut_is s h.1 w)
  clear h hw
  go_enter Tryz.func307, Tryz.ntmps307
  go_wp2_with (first | (go_at_call 122; refine HC.out.mono ?_; rintro e _ ⟨rfl, rfl⟩) | (go_at_call 360; refine HT.out.mono ?_; rintro e w1 ⟨rfl, hb1⟩; have HB1 := Lib.hid hb1; clear hb1))
  go_ret
  exact ⟨rfl, HB1.out⟩
theorem Image_none {s : ByteArray} (h : Plain s) (w : World) (hw : Ev.Told w) : Calls Tryz.prog 227 #[.string s] w fun e w' => e = .returned (.string .empty) ∧ Below w.heap.size w w' := by
  have HT := Lib.hid (picture_none h w hw)
  clear h hw
  go_enter Tryz.func227, Tryz.ntmps227
  go_wp2_with (go_at_call 307; refine HT.out.mono ?_; rintro e w1 ⟨rfl, hb1⟩; have HB1 := Lib.hid hb1; clear hb1)
  go_ret
  exact ⟨rfl, HB1.out⟩
end Go.Proofs.YtlhaaokldjdnnaaGreatDoor
namespace Go.Proofs.YtlhaaokldjdnnaaGreatDoor
open Go.RowKit
set_option linter.unusedVariables false
set_option linter.unusedSimpArgs false
set_option linter.all false

theorem break1_is (s t : ByteArray) (p : Addr) (w : World) (hp : w.cell? p = some (.string s)) : Calls Tryz.prog 217 #[.string t, .pointer (some p)] w fun e w' => e = .returned (.bool (Lib.hasPrefix s.data.toList t.data.toList)) ∧ w = w' := by
  have H := Lib.hid (Tryz.strings_HasPrefix s t w)
  go_enter Tryz.func217, Tryz.ntmps217
  go_wp2_with (go_at_call 218; refine H.out.mono ?_; rintro e _ ⟨rfl, rfl⟩)
  go_ret
  exact ⟨rfl, rfl⟩
/-- slices.IndexFunc over texts: it finds one just if the function says yes of one. -/
theorem index_any (g off n cap : Nat) (f : FuncId) (caps : Array Value) (pb : Nat → Bool) (w : World) (hn : n ≤ 1000) (ts : Nat → ByteArray) (hc : ∀ i, i < n → w.cell? ⟨g, off + i, none⟩ = some (.string (ts i)))
    (hcf : ∀ (t : ByteArray) (w : World), (callFunc f (#[.string t] ++ caps)).run Tryz.prog w = .ok (.enter f (#[.string t] ++ caps)) w)
    (hf : ∀ i, i < n → ∀ W, Below w.heap.size w W → Calls Tryz.prog f (#[.string (ts i)] ++ caps) W fun e w' => e = .returned (.bool (pb i)) ∧ Below W.heap.size W w') :
    Calls Tryz.prog 292 #[.slice (some ⟨g, off, none⟩) n cap, .func (.func f) #[] caps] w fun e w' => (∃ k : Int, e = .returned (.int .i64 k) ∧ ((∃ i, i < n ∧ pb i = true) ↔ 0 ≤ k)) ∧ Below w.heap.size w w' := by
  have HC := Lib.hid hc
  have HF := Lib.hid hf
  clear hc hf
  go_enter Tryz.func292, Tryz.ntmps292
  go_wp2
  go_loopw [8] (fun i wr => ∃ k : Nat, i = .int .i64 k ∧ k ≤ n ∧ Hid ((∀ j, j < k → pb j = false) ∧ Below w.heap.size w wr)) (fun i _ => n - (intOf i).toNat)
  case atStart => exact ⟨0, rfl, Nat.zero_le _, Lib.hid ⟨fun j hj => absurd hj (Nat.not_lt_zero _), Below.refl _ _⟩⟩
  case round =>
    obtain ⟨k, rfl, hk, hq⟩ := hrel
    by_cases hlt : k < n
    · have ht0 := HC.out k hlt
      have ht : wr.cell? ⟨g, off + k, none⟩ = some (.string (ts k)) := (World.cell?_of_block (hq.out.2.block g (lt_of_cell ht0))).trans ht0
      have HK := Lib.hid (HF.out k hlt wr hq.out.2)
      have i1 : (k : Int) < (n : Int) := by omega
      clear ht0
      cases hb : pb k
      · rw [hb] at HK
        have HB := Lib.hid hb
        clear hb
        go_wp2_with fail
        refine HK.out.mono ?_
        rintro e w1 ⟨rfl, hb1⟩
        have HX : Hid ((∀ j, j < k + 1 → pb j = false) ∧ Below w.heap.size w w1) := Lib.hid ⟨fun j hj => by
          rcases Nat.lt_succ_iff_lt_or_eq.1 hj with h | h
          · exact hq.out.1 j h
          · rw [h]; exact HB.out, below_then hq.out.2 (Nat.le_refl _) hb1⟩
        clear hb1 ht
        go_wp2
        go_roundw
        case rel => exact ⟨k + 1, by go_num, by omega, HX⟩
        case measure => simp [intOf]; omega
      · rw [hb] at HK
        have HB := Lib.hid hb
        clear hb
        go_wp2_with fail
        refine HK.out.mono ?_
        rintro e w1 ⟨rfl, hb1⟩
        have HX := Lib.hid (below_then hq.out.2 (Nat.le_refl _) hb1)
        clear hb1 ht
        go_wp2
        go_ret
        exact ⟨⟨(k : Int), rfl, fun _ => by omega, fun _ => ⟨k, hlt, HB.out⟩⟩, HX.out⟩
    · obtain rfl : k = n := by omega
      go_wp2
      go_ret
      refine ⟨⟨-1, rfl, Iff.intro (fun hx => ?_) (fun hx => absurd hx (by decide))⟩, hq.out.2⟩
      obtain ⟨i, hi, hp⟩ := hx
      rw [hq.out.1 i hi] at hp
      cases hp
theorem contains_any (g off n cap : Nat) (f : FuncId) (caps : Array Value) (pb : Nat → Bool) (w : World) (hn : n ≤ 1000) (ts : Nat → ByteArray) (hc : ∀ i, i < n → w.cell? ⟨g, off + i, none⟩ = some (.string (ts i)))
    (hcf : ∀ (t : ByteArray) (w : World), (callFunc f (#[.string t] ++ caps)).run Tryz.prog w = .ok (.enter f (#[.string t] ++ caps)) w)
    (hf : ∀ i, i < n → ∀ W, Below w.heap.size w W → Calls Tryz.prog f (#[.string (ts i)] ++ caps) W fun e w' => e = .returned (.bool (pb i)) ∧ Below W.heap.size W w') :
    Calls Tryz.prog 216 #[.slice (some ⟨g, off, none⟩) n cap, .func (.func f) #[] caps] w fun e w' => (∃ b, e = .returned (.bool b) ∧ ((∃ i, i < n ∧ pb i = true) ↔ b = true)) ∧ Below w.heap.size w w' := by
  have H := Lib.hid (index_any g off n cap f caps pb w hn ts hc hcf hf)
  clear hc hcf hf
  go_enter Tryz.func216, Tryz.ntmps216
  go_wp2_with fail
  refine H.out.mono ?_
  rintro e w1 ⟨⟨k, rfl, hk⟩, hb1⟩
  have HK := Lib.hid hk
  have HB := Lib.hid hb1
  clear hk hb1
  go_wp2
  go_ret
  exact ⟨⟨decide (0 ≤ k), rfl, by simpa using HK.out⟩, HB.out⟩
/-- No breaker begins with a blank, nor with '<'. -/
theorem breaks_not {s : ByteArray} (h : Plain s) (w : World) : Calls Tryz.prog 167 #[.string s] w fun e w' => e = .returned (.bool false) ∧ Below w.heap.size w w' := by
  have hmf : ∀ (fn : Fn) (first cap : Array Value) (w : World), (Instr.makeFunc fn first cap).run Tryz.prog w = .ok (.func fn first cap) w := fun _ _ _ _ => rfl
  let ts : Nat → ByteArray := fun i => match i with
    | 0 => ⟨#[41, 93, 125, 39]⟩
    | 1 => ⟨#[123, 125, 38, 38]⟩
    | _ => ⟨#[102, 111, 114, 40, 59, 59, 41, 59]⟩
  have hno : Hid (∀ i, i < 3 → Lib.hasPrefix s.data.toList (ts i).data.toList = false) := Lib.hid fun i hi => by
    obtain ⟨_, c, r, hs, hp⟩ := h
    rw [hs]
    have key : ∀ (x : UInt8) (l : List UInt8), plainB x = false → Lib.hasPrefix (c :: r) (x :: l) = false := fun x l hx => by
      have hcx : (c == x) = false := by
        cases he : (c == x)
        · rfl
        · have : c = x := by simpa using he
          rw [← this, hp] at hx
          cases hx
      have hxc : (x == c) = false := by
        have h1 : ¬ c = x := by simpa using hcx
        have h2 : ¬ x = c := fun e => h1 e.symm
        simpa using h2
      simp [Lib.hasPrefix, List.isPrefixOf, hxc]
    rcases (by omega : i = 0 ∨ i = 1 ∨ i = 2) with rfl | rfl | rfl
    · exact key 41 _ (by decide)
    · exact key 123 _ (by decide)
    · exact key 102 _ (by decide)
  clear h
  go_enter Tryz.func167, Tryz.ntmps167
  go_wp2_with fail
  have hs0 : ((w.alloc (.cells #[.string s] 9)).alloc (.cells #[.string ⟨#[41, 93, 125, 39]⟩, .string ⟨#[123, 125, 38, 38]⟩, .string ⟨#[102, 111, 114, 40, 59, 59, 41, 59]⟩] 9)).heap[w.heap.size]? = some (.cells #[.string s] 9 (0, 0)) := (Below.heap_alloc _ _ _ (by simp)).trans (heap_alloc_new w _)
  have hs1 : ((w.alloc (.cells #[.string s] 9)).alloc (.cells #[.string ⟨#[41, 93, 125, 39]⟩, .string ⟨#[123, 125, 38, 38]⟩, .string ⟨#[102, 111, 114, 40, 59, 59, 41, 59]⟩] 9)).heap[w.heap.size + 1]? = some (.cells #[.string ⟨#[41, 93, 125, 39]⟩, .string ⟨#[123, 125, 38, 38]⟩, .string ⟨#[102, 111, 114, 40, 59, 59, 41, 59]⟩] 9 (0, 0)) := by
    have := heap_alloc_new (w.alloc (.cells #[.string s] 9)) (.cells #[.string ⟨#[41, 93, 125, 39]⟩, .string ⟨#[123, 125, 38, 38]⟩, .string ⟨#[102, 111, 114, 40, 59, 59, 41, 59]⟩] 9)
    rwa [World.size_alloc] at this
  refine (contains_any (w.heap.size + 1) 0 3 3 217 #[.pointer (some ⟨w.heap.size, 0, none⟩)] (fun i => Lib.hasPrefix s.data.toList (ts i).data.toList) _ (by decide) ts ?_ (fun t W => by kernel_rfl) ?_).mono ?_
  · intro i hi
    rcases (by omega : i = 0 ∨ i = 1 ∨ i = 2) with rfl | rfl | rfl
    · exact cell_of_row _ _ 0 _ _ _ hs1
    · exact cell_of_row _ _ 1 _ _ _ hs1
    · exact cell_of_row _ _ 2 _ _ _ hs1
  · intro i hi W hb
    have hp : W.cell? ⟨w.heap.size, 0, none⟩ = some (.string s) := cell_of_row _ _ 0 _ _ _ ((hb.block _ (blk_lt hs0)).trans hs0)
    refine (break1_is s (ts i) ⟨w.heap.size, 0, none⟩ W hp).mono ?_
    rintro e w' ⟨rfl, rfl⟩
    exact ⟨rfl, Below.refl _ _⟩
  · rintro e w1 ⟨⟨b, rfl, hbi⟩, hb1⟩
    obtain rfl : b = false := by
      cases b
      · rfl
      · obtain ⟨i, hi, hp⟩ := hbi.2 rfl
        rw [hno.out i hi] at hp
        cases hp
    have HB := Lib.hid (below_then (((Below.refl w.heap.size w).alloc (Nat.le_refl _) _).alloc (by simp) _) (Nat.le_refl _) hb1)
    clear hb1 hs0 hs1
    go_wp2
    go_ret
    exact ⟨rfl, HB.out⟩
/-- Whether a tag ends at a place. -/
def endsB (s : ByteArray) (n : Nat) : Bool := if h : n < s.size then s[n] == 32 || s[n] == 62 else false
/-- mask.Ends. -/
theorem ends_is (s : ByteArray) (n : Nat) (w : World) : Calls Tryz.prog 353 #[.string s, .int .i64 (n : Int)] w fun e w' => e = .returned (.bool (endsB s n)) ∧ w = w' := by
  unfold endsB
  by_cases h : n < s.size
  · have i1 : (n : Int) < (s.size : Int) := by omega
    rw [dif_pos h]
    have e1 := u8_eq s[n] 32
    have e2 := u8_eq s[n] 62
    cases h1 : (s[n] == 32)
    · rw [h1] at e1
      cases h2 : (s[n] == 62)
      all_goals
        rw [h2] at e2
        have e1' : ((s[n].toNat : Int) == 32) = false := e1
        have e2' : ((s[n].toNat : Int) == 62) = _ := e2
        clear e1 e2 h1 h2
        go_enter Tryz.func353, Tryz.ntmps353
        go_wp2
        go_ret
        exact ⟨rfl, rfl⟩
    · rw [h1] at e1
      have e1' : ((s[n].toNat : Int) == 32) = true := e1
      clear e1 e2 h1
      go_enter Tryz.func353, Tryz.ntmps353
      go_wp2
      go_ret
      exact ⟨rfl, rfl⟩
  · have i1 : ¬ (n : Int) < (s.size : Int) := by omega
    rw [dif_neg h]
    go_enter Tryz.func353, Tryz.ntmps353
    go_wp2
    go_ret
    exact ⟨rfl, rfl⟩
/-- mask.Begins. -/
theorem Begins_is (s b m k t : ByteArray) (w : World) (hs : s.size ≤ 1000000) : Calls Tryz.prog 354 #[.string s, patV b m k t] w fun e w' => e = .returned (.int .i64 (padN s.data.toList k.data.toList)) ∧ Below w.heap.size w w' := by
  have H := Lib.hid (fun w => begins_is s b m k t w hs)
  unfold patV at H ⊢
  go_enter Tryz.func354, Tryz.ntmps354
  go_wp2_with (go_at_call 393; refine (H.out _).mono ?_; rintro e w1 ⟨rfl, hb1⟩; have HB := Lib.hid hb1; clear hb1)
  go_ret
  exact ⟨rfl, below_then ((Below.refl _ _).alloc (Nat.le_refl _) _) (Nat.le_refl _) HB.out⟩
end Go.Proofs.YtlhaaokldjdnnaaGreatDoor
