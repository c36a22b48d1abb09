/-
  Parts, one behind the other: Layer 29 (lexer): both machines in memory; what they say behind a byte; the end. No condition but that the machines are some, and the tables lie as they were laid. | Layer 29 (lexer): how far a body has come, byte by byte; any text that comes. No condition but that the machines are some, and the tables lie as they were laid. | The plain law: what a text that begins with blanks and '<' does to the lexer's phases. No condition. | Layer 29 (lexer): any text that comes; the end; what it says. No condition but that the machines are some, and the tables lie as they were laid. | Layer 29 (lexer): Feed, End, what it says; a new one. No condition but that the machines are some, and the tables lie as they were laid. | Layer 38 (stream): headers of its own. No condition.
-/
import Derived.Test.YtlhaaokldjdnnaaGreatDoorJs4All
import Derived.Test.YtlhaaokldjdnnaaGreatDoorQFirstAll
import Derived.Test.YtlhaaokldjdnnaaGreatDoorMaskAll
import Derived.Test.YtlhaaokldjdnnaaGreatDoorEvHead3All
namespace Go.Proofs.YtlhaaokldjdnnaaGreatDoor
open Go.RowKit
set_option linter.unusedVariables false
set_option linter.unusedSimpArgs false

theorem Row.kept {w w' : World} {B : Nat} {e : TypeId} {v : Value} {n : Nat} {xs : List Value} {T : List TypeId} (h : Row w B e v n xs) (hk : Kept w w' B T) (he : e ∉ T) : Row w' B e v n xs := by
  refine ⟨h.1, ?_⟩
  rcases h.2 with hn | ⟨g, off, cap, cur, hv, hb, hg, rest⟩
  · exact .inl hn
  · exact .inr ⟨g, off, cap, cur, hv, hb, (hk.keep g _ _ _ hg he).trans hg, rest⟩
section
variable {w w' : World} {B g : Nat} {T : List TypeId}
theorem JsIs.keep {j : Js} (h : JsIs w B g j) (hk : Kept w w' B T) (h1 : 126 ∉ T) (h2 : 5 ∉ T) : JsIs w' B g j :=
  ⟨h.low, (hk.keep g _ _ _ h.blk h1).trans h.blk, h.row.kept hk h2, h.deep, h.said_⟩
theorem JnIs.keep {bad : Bool} {pl sn : Int} (h : JnIs w B g bad pl sn) (hk : Kept w w' B T) (h1 : 124 ∉ T) : JnIs w' B g bad pl sn := ⟨h.low, (hk.keep g _ _ _ h.blk h1).trans h.blk⟩
end

/-- What the lexer holds. -/
structure Lx where
  v : Int
  rs : ByteArray
  pos : Int
  sn : Int
  ended : Bool
def lxCells (jb sb : Nat) (l : Lx) : Array Value := #[.pointer (some ⟨jb, 0, none⟩), .pointer (some ⟨sb, 0, none⟩), .int .i64 l.v, .string l.rs, .int .i64 l.pos, .int .i64 l.sn, .bool l.ended]
structure LxIs (w : World) (B g jb sb : Nat) (l : Lx) : Prop where
  low : B ≤ g
  blk : w.heap[g]? = some (.cells (lxCells jb sb l) 109 (0, 0))
section
variable {w w' : World} {B g jb sb : Nat} {l : Lx} {T : List TypeId}
theorem LxIs.keep (h : LxIs w B g jb sb l) (hk : Kept w w' B T) (h1 : 109 ∉ T) : LxIs w' B g jb sb l := ⟨h.low, (hk.keep g _ _ _ h.blk h1).trans h.blk⟩
theorem LxIs.below (h : LxIs w B g jb sb l) (hb : Below w.heap.size w w') : LxIs w' B g jb sb l := ⟨h.low, (hb.block g (blk_lt h.blk)).trans h.blk⟩
theorem LxIs.cells (h : LxIs w B g jb sb l) : w.cell? ⟨g, 0, none⟩ = some (.pointer (some ⟨jb, 0, none⟩)) ∧ w.cell? ⟨g, 1, none⟩ = some (.pointer (some ⟨sb, 0, none⟩)) ∧ w.cell? ⟨g, 2, none⟩ = some (.int .i64 l.v) ∧ w.cell? ⟨g, 3, none⟩ = some (.string l.rs) ∧
    w.cell? ⟨g, 4, none⟩ = some (.int .i64 l.pos) ∧ w.cell? ⟨g, 5, none⟩ = some (.int .i64 l.sn) ∧ w.cell? ⟨g, 6, none⟩ = some (.bool l.ended) :=
  have k := fun i => cell_of_row w g i _ _ _ h.blk
  ⟨k 0, k 1, k 2, k 3, k 4, k 5, k 6⟩
theorem LxIs.frees (h : LxIs w B g jb sb l) : w.frozen? ⟨g, 2, none⟩ = false ∧ w.frozen? ⟨g, 3, none⟩ = false ∧ w.frozen? ⟨g, 4, none⟩ = false ∧ w.frozen? ⟨g, 5, none⟩ = false ∧ w.frozen? ⟨g, 6, none⟩ = false :=
  have k := fun i => blk_frozen h.blk i
  ⟨k 2, k 3, k 4, k 5, k 6⟩
theorem LxIs.kept (h : LxIs w B g jb sb l) (i : Nat) (u : Value) (hk : Kept w w' B [109]) : Kept w (w'.setCell ⟨g, i, none⟩ u) B [109] := hk.set_ h.low h.blk (by simp) i u
theorem lx_settle (h : LxIs w B g jb sb l) (v : Int) (rs : ByteArray) : Calls Tryz.prog 127 #[.pointer (some ⟨g, 0, none⟩), .int .i64 v, .string rs] w fun e w' => e = .returned (.tuple #[]) ∧ LxIs w' B g jb sb { l with v := v, rs := rs, pos := l.sn } ∧ Kept w w' B [109] := by
  obtain ⟨c0, c1, c2, c3, c4, c5, c6⟩ := h.cells
  obtain ⟨f2, f3, f4, f5, f6⟩ := h.frees
  have H := Lib.hid h
  clear h
  go_enter Tryz.func127, Tryz.ntmps127
  go_wp2
  go_end0
  exact ⟨rfl, ⟨H.out.low, blk_set (blk_set (blk_set H.out.blk 2 _) 3 _) 4 _⟩, H.out.kept _ _ (H.out.kept _ _ (H.out.kept _ _ (Kept.refl _ _ _)))⟩
/-- Both machines are asked behind a byte. -/
theorem lx_look {bad : Bool} {pl sn : Int} {j : Js} (h : LxIs w B g jb sb l) (hj : JnIs w B jb bad pl sn) (hs : JsIs w B sb j) :
    Calls Tryz.prog 98 #[.pointer (some ⟨g, 0, none⟩)] w fun e w' => e = .returned (.tuple #[]) ∧ (∃ l', LxIs w' B g jb sb l' ∧ l'.ended = l.ended ∧ l'.sn = l.sn ∧ (j.bad = true → l'.v = 2) ∧ (j.bad = false ∧ j.ends = 0 → l'.v = l.v)) ∧ Kept w w' B [109] := by
  obtain ⟨c0, c1, c2, c3, c4, c5, c6⟩ := h.cells
  have H := Lib.hid h
  have HJ : Hid (∀ W, Below w.heap.size w W → Calls Tryz.prog 128 #[.pointer (some ⟨jb, 0, none⟩)] W fun e w' => e = .returned (.int .i64 (if bad then 0 else 1)) ∧ W = w') := fun W hb => jn_State (hj.below hb)
  have HS := Lib.hid (js_State hs)
  have HN : Hid (∀ W, Below w.heap.size w W → Calls Tryz.prog 135 #[.pointer (some ⟨sb, 0, none⟩)] W fun e w' => e = .returned (.int .i64 j.ends) ∧ W = w') := fun W hb => js_Ends (hs.below hb)
  have HB : Hid (B ≤ w.heap.size) := Nat.le_trans h.low (Nat.le_of_lt (blk_lt h.blk))
  have HR := Lib.hid (Below.refl w.heap.size w)
  have HST : Hid (∀ v rs W, LxIs W B g jb sb l → Calls Tryz.prog 127 #[.pointer (some ⟨g, 0, none⟩), .int .i64 v, .string rs] W fun e w' => e = .returned (.tuple #[]) ∧ LxIs w' B g jb sb { l with v := v, rs := rs, pos := l.sn } ∧ Kept W w' B [109]) := fun v rs W hW => lx_settle hW v rs
  clear h hj hs
  cases hb : j.bad
  case true =>
    have ht : tellJ j = 0 := by unfold tellJ; rw [hb]; rfl
    rw [ht] at HS
    cases bad
    all_goals
      simp only [Bool.false_eq_true, if_false, if_true] at HJ
      go_enter Tryz.func98, Tryz.ntmps98
      go_wp2_with (first
        | (go_at_call 128; refine (HJ.out _ HR.out).mono ?_; rintro e _ ⟨rfl, rfl⟩)
        | (go_at_call 129; refine HS.out.mono ?_; rintro e w1 ⟨rfl, hb1⟩; have HB1 := Lib.hid hb1; clear hb1)
        | (go_at_call 127; refine (HST.out _ _ _ (H.out.below HB1.out)).mono ?_; rintro e w2 ⟨rfl, h2, hk2⟩; have H2 := Lib.hid h2; have HK := Lib.hid ((Kept.of HB1.out HB.out [109]).trans hk2); clear h2 hk2))
      go_end0
      exact ⟨rfl, ⟨_, H2.out, rfl, rfl, fun _ => rfl, fun h => absurd h.1 (by simp [hb])⟩, HK.out⟩
  case false =>
    have ht : (tellJ j == 0) = false := by
      unfold tellJ
      rw [hb]
      cases (j.n == 0 && ([0, 1, 2, 8, 10] : List Int).contains j.pos) <;> rfl
    obtain ⟨t, htt⟩ : ∃ t, tellJ j = t := ⟨_, rfl⟩
    rw [htt] at HS ht
    clear htt
    cases bad
    all_goals
      simp only [Bool.false_eq_true, if_false, if_true] at HJ
      go_enter Tryz.func98, Tryz.ntmps98
      go_wp2_with (first
        | (go_at_call 128; refine (HJ.out _ (by first | exact HB1.out | exact HR.out)).mono ?_; rintro e _ ⟨rfl, rfl⟩)
        | (go_at_call 129; refine HS.out.mono ?_; rintro e w1 ⟨rfl, hb1⟩; obtain ⟨d0, d1, d2, d3, d4, d5, d6⟩ := (H.out.below hb1).cells; have HB1 := Lib.hid hb1; clear hb1)
        | (go_at_call 135; refine (HN.out _ HB1.out).mono ?_; rintro e _ ⟨rfl, rfl⟩)
        | (go_at_call 127; refine (HST.out _ _ _ (H.out.below HB1.out)).mono ?_; rintro e w2 ⟨rfl, h2, hk2⟩; have H2 := Lib.hid h2; have HK := Lib.hid ((Kept.of HB1.out HB.out [109]).trans hk2); clear h2 hk2))
      all_goals
        go_end0
        first
          | exact ⟨rfl, ⟨_, H2.out, rfl, rfl, fun h => by simp [hb] at h, fun h => by have := h.2; omega⟩, HK.out⟩
          | exact ⟨rfl, ⟨_, H.out.below HB1.out, rfl, rfl, fun h => by simp [hb] at h, fun _ => rfl⟩, Kept.of HB1.out HB.out _⟩
end
end Go.Proofs.YtlhaaokldjdnnaaGreatDoor
namespace Go.Proofs.YtlhaaokldjdnnaaGreatDoor
open Go.RowKit
set_option linter.unusedVariables false
set_option linter.unusedSimpArgs false

/-- What may stand ahead of a tag. -/
def padB (z : Int) : Bool := z == 9 || z == 10 || z == 12 || z == 13 || z == 32
/-- How far a body has come: blanks alone (0); the first mark's bytes (1, 2, 3); a whole one (4); neither (5). -/
def stepPh (ph : Nat) (z : Int) : Nat := match ph with
  | 0 => if z == 60 then 1 else 0
  | 1 => if z == 33 then 2 else 5
  | 2 => if z == 45 then 3 else 5
  | 3 => if z == 45 then 4 else 5
  | n => n
def runPh (ph : Nat) (l : List UInt8) : Nat := l.foldl (fun p c => stepPh p (c.toNat : Int)) ph
def phJ (ph : Nat) (j : Js) : Prop := match ph with
  | 0 => j.pos = 0 ∧ j.pieces = 0 ∧ j.ends = 0 ∧ j.bad = false
  | 1 => j.pos = 13 ∧ j.ends = 0 ∧ j.bad = false
  | 2 => j.pos = 14 ∧ j.ends = 0 ∧ j.bad = false
  | 3 => j.pos = 15 ∧ j.ends = 0 ∧ j.bad = false
  | 5 => j.bad = true
  | _ => True
theorem phJ_seen (ph : Nat) (j : Js) (x : Int) (h : phJ ph j) : phJ ph { j with seen := x } := by
  unfold phJ at *
  split <;> simp_all
theorem pad_white {z : Int} (h : padB z = true) : whiB z = true := by
  simp [padB, or_assoc] at h
  rcases h with rfl | rfl | rfl | rfl | rfl <;> rfl
theorem pad_json {z : Int} (h : padB z = true) : jwB z = true ∨ z = 12 := by
  simp [padB, or_assoc] at h
  rcases h with rfl | rfl | rfl | rfl | rfl <;> simp [jwB]
theorem pad_not {z : Int} (h : padB z = true) : (z == 60) = false := by
  simp [padB, or_assoc] at h
  rcases h with rfl | rfl | rfl | rfl | rfl <;> rfl
section
variable {w w' : World} {B g jb sb : Nat}
theorem js_step {j : Js} (h : JsIs w B g j) (ph : Nat) (hp : phJ ph j) (h5 : ph ≤ 4) (c : UInt8) (hc : ph = 0 → padB (c.toNat : Int) = true ∨ (c.toNat : Int) = 60) (hB : B ≤ w.heap.size) (hB1 : 1 ≤ B) (hT : Ev.Told w) :
    Calls Tryz.prog 97 #[.pointer (some ⟨g, 0, none⟩), .string ⟨#[c]⟩] w fun e w' => (∃ x, e = .returned (.int .i64 x)) ∧ (∃ j2, JsIs w' B g j2 ∧ phJ (stepPh ph (c.toNat : Int)) j2) ∧ Kept w w' B jsT := by
  refine js_Feed1 h c (phJ (stepPh ph (c.toNat : Int))) (fun j x h => phJ_seen _ j x h) ?_ ?_
  · intro hb
    match ph, hp, h5 with
    | 0, hp, _ => rw [hp.2.2.2] at hb; cases hb
    | 1, hp, _ => rw [hp.2.2] at hb; cases hb
    | 2, hp, _ => rw [hp.2.2] at hb; cases hb
    | 3, hp, _ => rw [hp.2.2] at hb; cases hb
    | 4, hp, _ => exact trivial
  · intro hb
    match ph, hp, h5, hc with
    | 0, hp, _, hc =>
      obtain ⟨p1, p2, p3, p4⟩ := hp
      rcases hc rfl with hc | hc
      · refine (js_blank h _ (pad_white hc) (by rw [p1]; rfl)).mono fun e w' hh => ⟨hh.1, ⟨_, hh.2.1, ?_⟩, hh.2.2⟩
        simp only [stepPh, pad_not hc]
        exact ⟨p1, p2, p3, p4⟩
      · rw [hc]
        refine (js_mark h (by rw [p1]; rfl) (by rw [p2]; rfl)).mono fun e w' hh => ⟨hh.1, ⟨_, hh.2.1, ?_⟩, hh.2.2⟩
        exact ⟨rfl, p3, p4⟩
    | 1, hp, _, _ =>
      obtain ⟨p1, p3, p4⟩ := hp
      refine (js_behind h _ (by rw [p1]; rfl)).mono fun e w' hh => ⟨hh.1, ⟨_, hh.2.1, ?_⟩, hh.2.2⟩
      unfold lessJ
      rw [p1]
      simp only [stepPh]
      cases hz : ((c.toNat : Int) == 33)
      · exact rfl
      · exact ⟨rfl, p3, p4⟩
    | 2, hp, _, _ =>
      obtain ⟨p1, p3, p4⟩ := hp
      refine (js_behind h _ (by rw [p1]; rfl)).mono fun e w' hh => ⟨hh.1, ⟨_, hh.2.1, ?_⟩, hh.2.2⟩
      unfold lessJ
      rw [p1]
      simp only [stepPh]
      cases hz : ((c.toNat : Int) == 45)
      · exact rfl
      · exact ⟨rfl, p3, p4⟩
    | 3, hp, _, _ =>
      obtain ⟨p1, p3, p4⟩ := hp
      refine (js_behind h _ (by rw [p1]; rfl)).mono fun e w' hh => ⟨hh.1, ⟨_, hh.2.1, ?_⟩, hh.2.2⟩
      unfold lessJ
      rw [p1]
      simp only [stepPh]
      cases hz : ((c.toNat : Int) == 45)
      · exact rfl
      · exact trivial
    | 4, hp, _, _ =>
      refine (js_byte h c hB hB1 hT).mono fun e w' hh => ⟨hh.1, ?_, hh.2.2⟩
      obtain ⟨j2, h2⟩ := hh.2.1
      exact ⟨j2, h2, trivial⟩

/-- Both machines, and how far the body has come. -/
def LexOk (w : World) (B g jb sb : Nat) (ph : Nat) (ended : Bool) : Prop := ∃ (l : Lx) (bad : Bool) (pl sn : Int) (j : Js), LxIs w B g jb sb l ∧ JnIs w B jb bad pl sn ∧ JsIs w B sb j ∧ l.ended = ended ∧ (1 ≤ ph → bad = true) ∧ (l.v = 0 → phJ ph j) ∧ (ph ≤ 3 → l.v = 0) ∧ (ph = 5 → l.v = 2)
def lxT : List TypeId := [109, 124, 126, 5]
theorem LexOk.keep {T : List TypeId} {ph : Nat} {ended : Bool} (h : LexOk w B g jb sb ph ended) (hk : Kept w w' B T) (h1 : ∀ t ∈ lxT, t ∉ T) : LexOk w' B g jb sb ph ended := by
  obtain ⟨l, bad, pl, sn, j, a, b, c, d⟩ := h
  exact ⟨l, bad, pl, sn, j, a.keep hk (h1 _ (by simp [lxT])), b.keep hk (h1 _ (by simp [lxT])), c.keep hk (h1 _ (by simp [lxT])) (h1 _ (by simp [lxT])), d⟩
theorem runPh_snoc (ph : Nat) (s : ByteArray) (k : Nat) (hk : k < s.size) : runPh ph (s.data.toList.take (k + 1)) = stepPh (runPh ph (s.data.toList.take k)) (s[k].toNat : Int) := by
  rw [take_snoc s k hk]
  simp [runPh]
theorem extract_one (s : ByteArray) (k : Nat) (hk : k < s.size) : s.extract k (k + 1) = ⟨#[s[k]]⟩ := by
  apply ext_data
  rw [Lib.extract_data, Nat.add_sub_cancel_left]
  rw [List.drop_eq_getElem_cons (by rw [← Lib.size_eq]; exact hk), byte_at s k hk]
  rfl
theorem stepPh_le (ph : Nat) (z : Int) (h : ph ≤ 4) : stepPh ph z ≤ 5 := by
  unfold stepPh
  split <;> (try split) <;> omega
end
end Go.Proofs.YtlhaaokldjdnnaaGreatDoor
namespace Go.Proofs.YtlhaaokldjdnnaaGreatDoor
open Go.RowKit
set_option linter.unusedVariables false
set_option linter.unusedSimpArgs false

theorem mem_takeW (f : UInt8 → Bool) : ∀ (l : List UInt8) (c : UInt8), c ∈ l.takeWhile f → f c = true
  | [], c, h => by simp at h
  | d :: l, c, h => by
    rw [List.takeWhile_cons] at h
    split at h
    · rename_i hd
      rcases List.mem_cons.1 h with rfl | h
      · exact hd
      · exact mem_takeW f l c h
    · simp at h
theorem skip_split (l : List UInt8) : ∃ bl, l = bl ++ skipL l ∧ ∀ c ∈ bl, hasB whiteL c = true := by
  refine ⟨l.takeWhile fun c => hasB whiteL c, (List.takeWhile_append_dropWhile).symm, fun c hc => ?_⟩
  exact mem_takeW _ l c hc
theorem white_pad (c : UInt8) (h : hasB whiteL c = true) : padB (c.toNat : Int) = true ∧ c.toNat ≠ 60 := by
  have : c = 9 ∨ c = 10 ∨ c = 12 ∨ c = 13 ∨ c = 32 := by
    unfold hasB whiteL at h
    simp at h
    rcases h with h | h | h | h | h <;> simp [h]
  rcases this with rfl | rfl | rfl | rfl | rfl <;> exact ⟨by decide, by decide⟩
theorem runPh_append (p : Nat) (a b : List UInt8) : runPh p (a ++ b) = runPh (runPh p a) b := by simp [runPh]
theorem run_blanks : ∀ (bl : List UInt8), (∀ c ∈ bl, hasB whiteL c = true) → runPh 0 bl = 0
  | [], _ => rfl
  | c :: bl, h => by
    have h1 := white_pad c (h c (by simp))
    have h2 : stepPh 0 (c.toNat : Int) = 0 := by
      have : ((c.toNat : Int) == 60) = false := by simp; omega
      simp [stepPh, this]
    show runPh (stepPh 0 (c.toNat : Int)) bl = 0
    rw [h2]
    exact run_blanks bl fun d hd => h d (by simp [hd])
theorem step_pos (p : Nat) (z : Int) (h : 1 ≤ p) : 1 ≤ stepPh p z := by
  match p, h with
  | 1, _ => show 1 ≤ (if z == 33 then 2 else 5); split <;> decide
  | 2, _ => show 1 ≤ (if z == 45 then 3 else 5); split <;> decide
  | 3, _ => show 1 ≤ (if z == 45 then 4 else 5); split <;> decide
  | p + 4, _ => show 1 ≤ p + 4; omega
theorem run_pos : ∀ (l : List UInt8) (p : Nat), 1 ≤ p → 1 ≤ runPh p l
  | [], p, h => h
  | c :: l, p, h => run_pos l _ (step_pos p _ h)
theorem feed_cond {l bl r : List UInt8} (hl : l = bl ++ 60 :: r) (hb : ∀ c ∈ bl, hasB whiteL c = true) (k : Nat) (hk : k < l.length) (h0 : runPh 0 (l.take k) = 0) : padB (l[k].toNat : Int) = true ∨ (l[k].toNat : Int) = 60 := by
  subst hl
  rcases Nat.lt_trichotomy k bl.length with h | h | h
  · left
    rw [List.getElem_append_left h]
    exact (white_pad _ (hb _ (List.getElem_mem h))).1
  · right
    subst h
    simp
  · exfalso
    have e : (bl ++ 60 :: r).take k = bl ++ 60 :: r.take (k - bl.length - 1) := by
      rw [List.take_append, List.take_of_length_le (by omega)]
      congr 1
      obtain ⟨m, hm⟩ : ∃ m, k - bl.length = m + 1 := ⟨k - bl.length - 1, by omega⟩
      rw [hm]
      rfl
    rw [e, runPh_append, run_blanks bl hb] at h0
    have : 1 ≤ runPh (stepPh 0 60) (r.take (k - bl.length - 1)) := run_pos _ _ (by decide)
    have h1 : runPh 0 (60 :: r.take (k - bl.length - 1)) = runPh (stepPh 0 60) (r.take (k - bl.length - 1)) := rfl
    omega
theorem white_blank (c : UInt8) (h : hasB whiteL c = true) : blankB c = true := by
  have : c = 9 ∨ c = 10 ∨ c = 12 ∨ c = 13 ∨ c = 32 := by
    unfold hasB whiteL at h
    simp at h
    rcases h with h | h | h | h | h <;> simp [h]
  rcases this with rfl | rfl | rfl | rfl | rfl <;> decide
theorem skipR_eq (r : List UInt8) : ∀ (bl : List UInt8), (∀ c ∈ bl, hasB whiteL c = true) → skipR (bl ++ 60 :: r) = 60 :: r
  | [], _ => rfl
  | c :: bl, h => by
    have h1 := white_blank c (h c (by simp))
    show List.dropWhile blankB (c :: (bl ++ 60 :: r)) = _
    rw [List.dropWhile_cons, h1]
    exact skipR_eq r bl fun d hd => h d (by simp [hd])
theorem run_stay : ∀ (l : List UInt8) (p : Nat), 4 ≤ p → runPh p l = p
  | [], p, _ => rfl
  | c :: l, p, h => by
    have e : stepPh p (c.toNat : Int) = p := by
      match p, h with
      | p + 4, _ => rfl
    show runPh (stepPh p (c.toNat : Int)) l = p
    rw [e]
    exact run_stay l p h
/-- A remark: the lexer is in it. -/
theorem run_remark {bl r : List UInt8} (hb : ∀ c ∈ bl, hasB whiteL c = true) : runPh 0 (bl ++ 60 :: 33 :: 45 :: 45 :: r) = 4 := by
  rw [runPh_append, run_blanks bl hb]
  exact run_stay r 4 (Nat.le_refl _)
/-- A tag's first byte: it is blocked. -/
theorem run_tag {bl r : List UInt8} {c : UInt8} (hb : ∀ c ∈ bl, hasB whiteL c = true) (hc : c ≠ 33) : runPh 0 (bl ++ 60 :: c :: r) = 5 := by
  rw [runPh_append, run_blanks bl hb]
  have h : ((c.toNat : Int) == 33) = false := by
    have : c.toNat ≠ 33 := fun e => hc (UInt8.toNat_inj.1 e)
    simp
    omega
  show runPh (if (c.toNat : Int) == 33 then 2 else 5) r = 5
  rw [h]
  exact run_stay r 5 (by decide)
theorem run_doc {bl r : List UInt8} {c : UInt8} (hb : ∀ c ∈ bl, hasB whiteL c = true) (hc : c ≠ 45) : runPh 0 (bl ++ 60 :: 33 :: c :: r) = 5 := by
  rw [runPh_append, run_blanks bl hb]
  have h : ((c.toNat : Int) == 45) = false := by
    have : c.toNat ≠ 45 := fun e => hc (UInt8.toNat_inj.1 e)
    simp
    omega
  show runPh (if (c.toNat : Int) == 45 then 3 else 5) r = 5
  rw [h]
  exact run_stay r 5 (by decide)
theorem plain_of {s : ByteArray} {bl r : List UInt8} (hs : s.size ≤ 1000) (hl : s.data.toList = bl ++ 60 :: r) (hb : ∀ c ∈ bl, hasB whiteL c = true) : ∃ c t, s.data.toList = c :: t ∧ (c = 9 ∨ c = 10 ∨ c = 12 ∨ c = 13 ∨ c = 32 ∨ c = 60) := by
  cases bl with
  | nil => exact ⟨60, r, hl, by simp⟩
  | cons c bl =>
    refine ⟨c, bl ++ 60 :: r, hl, ?_⟩
    have h := hb c (by simp)
    unfold hasB whiteL at h
    simp at h
    rcases h with h | h | h | h | h <;> simp [h]
end Go.Proofs.YtlhaaokldjdnnaaGreatDoor
namespace Go.Proofs.YtlhaaokldjdnnaaGreatDoor
open Go.RowKit
set_option linter.unusedVariables false
set_option linter.unusedSimpArgs false
section
variable {w w' : World} {B g jb sb : Nat}

theorem json_step {bad : Bool} {pl sn : Int} (h : JnIs w B g bad pl sn) (ph : Nat) (hp : 1 ≤ ph → bad = true) (c : UInt8) (hc : ph = 0 → padB (c.toNat : Int) = true ∨ (c.toNat : Int) = 60) :
    Calls Tryz.prog 96 #[.pointer (some ⟨g, 0, none⟩), .string ⟨#[c]⟩] w fun e w' => (∃ x, e = .returned (.int .i64 x)) ∧ (∃ bad2, (1 ≤ stepPh ph (c.toNat : Int) → bad2 = true) ∧ JnOk w' B g bad2) ∧ Kept w w' B [124] := by
  have hcond : bad = true ∨ jwB (c.toNat : Int) = true ∨ (c.toNat : Int) = 12 ∨ (c.toNat : Int) = 60 := by
    rcases Nat.eq_zero_or_pos ph with h0 | h0
    · rcases hc h0 with h1 | h1
      · rcases pad_json h1 with h2 | h2
        · exact .inr (.inl h2)
        · exact .inr (.inr (.inl h2))
      · exact .inr (.inr (.inr h1))
    · exact .inl (hp h0)
  refine (jn_Feed1 h c hcond).mono fun e w' hh => ⟨hh.1, ⟨_, fun h1 => ?_, hh.2.1⟩, hh.2.2⟩
  rcases Nat.eq_zero_or_pos ph with h0 | h0
  · subst h0
    rcases hc rfl with h2 | h2
    · simp only [stepPh, pad_not h2] at h1
      simp at h1
    · rw [h2]
      simp [jwB]
  · rw [hp h0]
    rfl

theorem LexOk.after {l l' : Lx} {bad : Bool} {ph : Nat} {z : Int} {j j3 : Js} (h5 : ph ≤ 4) (hv : l.v = 0) (hL : LxIs w B g jb sb l') (hJ : JnOk w B jb bad) (hS : JsIs w B sb j3) (he : l'.ended = l.ended) (hE : l.ended = false) (hb : 1 ≤ stepPh ph z → bad = true) (hp : phJ (stepPh ph z) j3) (h1 : j3.bad = true → l'.v = 2) (h2 : j3.bad = false ∧ j3.ends = 0 → l'.v = 0) : LexOk w B g jb sb (stepPh ph z) false := by
  obtain ⟨pl, sn, hJ⟩ := hJ
  have hle := stepPh_le ph z h5
  refine ⟨l', bad, pl, sn, j3, hL, hJ, hS, he.trans hE, hb, fun _ => hp, fun h3 => ?_, fun h3 => ?_⟩
  · generalize stepPh ph z = p at hp h3
    match p, hp, h3 with
    | 0, hp, _ => exact h2 ⟨hp.2.2.2, hp.2.2.1⟩
    | 1, hp, _ => exact h2 ⟨hp.2.2, hp.2.1⟩
    | 2, hp, _ => exact h2 ⟨hp.2.2, hp.2.1⟩
    | 3, hp, _ => exact h2 ⟨hp.2.2, hp.2.1⟩
  · rw [h3] at hp
    exact h1 hp

set_option maxRecDepth 100000 in
set_option maxHeartbeats 4000000 in
theorem lx_feed {ph : Nat} (h : LexOk w B g jb sb ph false) (h5 : ph ≤ 5) (s : ByteArray) (hs : s.size ≤ 1000) (hok : ∀ (k : Nat) (hk : k < s.size), runPh ph (s.data.toList.take k) = 0 → padB (s[k].toNat : Int) = true ∨ (s[k].toNat : Int) = 60)
    (hB : B ≤ w.heap.size) (hB1 : 1 ≤ B) (hT : Ev.Told w) :
    Calls Tryz.prog 74 #[.pointer (some ⟨g, 0, none⟩), .string s] w fun e w' => (∃ x, e = .returned (.int .i64 x)) ∧ LexOk w' B g jb sb (runPh ph s.data.toList) false ∧ Kept w w' B lxT := by
  have H := Lib.hid h
  have HB := Lib.hid hB
  have HT := Lib.hid hT
  have HOK := Lib.hid hok
  clear h hB hT hok
  go_enter Tryz.func74, Tryz.ntmps74
  go_wp2
  go_loopw [8] (fun i wr => ∃ k : Nat, i = .int .i64 k ∧ k ≤ s.size ∧ Hid (LexOk wr B g jb sb (runPh ph (s.data.toList.take k)) false ∧ Kept w wr B lxT)) (fun i _ => s.size - (intOf i).toNat)
  case atStart => exact ⟨0, rfl, Nat.zero_le _, Lib.hid ⟨H.out, Kept.refl _ _ _⟩⟩
  case round =>
    obtain ⟨k, rfl, hk, hq⟩ := hrel
    obtain ⟨⟨l, bad, pl, sn, j, hL, hJ, hS, hE, hb, hp, hv3, hv5⟩, hK⟩ := hq.out
    clear hq
    obtain ⟨c0, c1, c2, c3, c4, c5, c6⟩ := hL.cells
    obtain ⟨f2, f3, f4, f5, f6⟩ := hL.frees
    rw [hE] at c6
    by_cases hlt : k < s.size
    · have hsnoc := runPh_snoc ph s k hlt
      have hcond := HOK.out k hlt
      cases hv : (l.v == 0)
      case false =>
        have hv' : (l.v != 0) = true := by rw [bne, hv]; rfl
        have hvn : l.v ≠ 0 := by intro e; rw [e] at hv; cases hv
        have hst : stepPh (runPh ph (s.data.toList.take k)) (s[k].toNat : Int) = runPh ph (s.data.toList.take k) := by
          have : ¬ runPh ph (s.data.toList.take k) ≤ 3 := fun h => hvn (hv3 h)
          generalize runPh ph (s.data.toList.take k) = p at this
          match p, this with
          | p + 4, _ => rfl
        have HL := Lib.hid hL
        have HJ := Lib.hid hJ
        have HS := Lib.hid hS
        have HK := Lib.hid hK
        have HX : Hid (LexOk (wr.setCell ⟨g, 5, none⟩ (.int .i64 (wrap64 (l.sn + 1)))) B g jb sb (runPh ph (s.data.toList.take (k + 1))) false ∧ Kept w (wr.setCell ⟨g, 5, none⟩ (.int .i64 (wrap64 (l.sn + 1)))) B lxT) := by
          have hk1 := hL.kept 5 (.int .i64 (wrap64 (l.sn + 1))) (Kept.refl wr B [109])
          refine ⟨?_, hK.trans (hk1.wide (by simp [lxT]))⟩
          rw [hsnoc, hst]
          exact ⟨{ l with sn := wrap64 (l.sn + 1) }, bad, pl, sn, j, ⟨hL.low, blk_set hL.blk 5 _⟩, hJ.keep hk1 (by decide), hS.keep hk1 (by decide) (by decide), hE, hb, hp, hv3, hv5⟩
        clear hL hJ hS hK hb hp hv3 hv5 hsnoc hcond hst hE
        go_wp2
        go_roundw
        case rel => exact ⟨k + 1, by go_num, by omega, HX⟩
        case measure => simp [intOf]; omega
      case true =>
        have hv' : (l.v != 0) = false := by rw [bne, hv]; rfl
        have hv0 : l.v = 0 := by simpa using hv
        obtain ⟨p, hpp⟩ : ∃ p, runPh ph (s.data.toList.take k) = p := ⟨_, rfl⟩
        rw [hpp] at hsnoc hcond hb hp hv3 hv5
        have hp4 : p ≤ 4 := by
          have h6 : p ≤ 5 := by
            rw [← hpp]
            have : ∀ (t : List UInt8) (q : Nat), q ≤ 5 → runPh q t ≤ 5 := by
              intro t
              induction t with
              | nil => intro q hq; exact hq
              | cons c t ih =>
                intro q hq
                refine ih _ ?_
                rcases Nat.lt_or_ge q 5 with h | h
                · exact stepPh_le q _ (by omega)
                · obtain rfl : q = 5 := by omega
                  exact Nat.le_refl _
            exact this _ _ h5
          rcases Nat.lt_or_ge p 5 with h | h
          · omega
          · have := hv5 (by omega)
            rw [hv0] at this
            cases this
        have hphj := hp hv0
        have hex := extract_one s k hlt
        have hw1 : Kept wr (wr.setCell ⟨g, 5, none⟩ (.int .i64 (wrap64 (l.sn + 1)))) B [109] := hL.kept 5 _ (Kept.refl wr B [109])
        have hL1 : LxIs (wr.setCell ⟨g, 5, none⟩ (.int .i64 (wrap64 (l.sn + 1)))).drew B g jb sb { l with sn := wrap64 (l.sn + 1) } := ⟨hL.low, blk_set hL.blk 5 _⟩
        have hJ1 : JnIs (wr.setCell ⟨g, 5, none⟩ (.int .i64 (wrap64 (l.sn + 1)))).drew B jb bad pl sn := hJ.keep (Kept.drew hw1) (by decide)
        have hS1 : JsIs (wr.setCell ⟨g, 5, none⟩ (.int .i64 (wrap64 (l.sn + 1)))).drew B sb j := hS.keep (Kept.drew hw1) (by decide) (by decide)
        have HK1 : Hid (Kept w (wr.setCell ⟨g, 5, none⟩ (.int .i64 (wrap64 (l.sn + 1)))).drew B lxT) := hK.trans ((Kept.drew hw1).wide (by simp [lxT]))
        have HF1 : Hid (Calls Tryz.prog 96 #[.pointer (some ⟨jb, 0, none⟩), .string (s.extract k (k + 1))] (wr.setCell ⟨g, 5, none⟩ (.int .i64 (wrap64 (l.sn + 1)))).drew fun e w' => (∃ x, e = .returned (.int .i64 x)) ∧ (∃ bad2, (1 ≤ stepPh p (s[k].toNat : Int) → bad2 = true) ∧ JnOk w' B jb bad2) ∧ Kept (wr.setCell ⟨g, 5, none⟩ (.int .i64 (wrap64 (l.sn + 1)))).drew w' B [124]) := by
          rw [hex]
          exact json_step hJ1 p hb s[k] (fun h0 => hcond h0)
        have HF2 : Hid (∀ W, Kept w W B lxT → JsIs W B sb j → Calls Tryz.prog 97 #[.pointer (some ⟨sb, 0, none⟩), .string (s.extract k (k + 1))] W fun e w' => (∃ x, e = .returned (.int .i64 x)) ∧ (∃ j2, JsIs w' B sb j2 ∧ phJ (stepPh p (s[k].toNat : Int)) j2) ∧ Kept W w' B jsT) := fun W hKW hSW => by
          rw [hex]
          exact js_step hSW p hphj hp4 s[k] (fun h0 => hcond h0) (Nat.le_trans HB.out hKW.below.size) hB1 (told_kept HT.out hKW.below hB1)
        obtain ⟨W1, hW1⟩ : ∃ W1, W1 = wr.setCell ⟨g, 5, none⟩ (.int .i64 (wrap64 (l.sn + 1))) := ⟨_, rfl⟩
        have d0 : W1.drew.cell? ⟨g, 0, none⟩ = some (.pointer (some ⟨jb, 0, none⟩)) := by rw [hW1]; exact hL1.cells.1
        have d0' : W1.cell? ⟨g, 0, none⟩ = some (.pointer (some ⟨jb, 0, none⟩)) := d0
        have hwr : IntKind.i64.wrap ((k : Int) + 1) = (k : Int) + 1 := by rw [IntKind.wrap_i64]; omega
        have i1 : (0 : Int) ≤ (k : Int) := by omega
        have i2 : (k : Int) ≤ (k : Int) + 1 := by omega
        have i3 : (k : Int) + 1 ≤ (s.size : Int) := by omega
        have HL1 := Lib.hid hL1
        have HJ1 := Lib.hid hJ1
        have HS1 := Lib.hid hS1
        have HSN := Lib.hid hsnoc
        have HE := Lib.hid hE
        have HV0 := Lib.hid hv0
        have HP4 := Lib.hid hp4
        have HWX := Lib.hid hW1
        clear hL hJ hS hK hb hp hv3 hv5 hsnoc hcond hE hpp hphj hex hw1 hL1 hJ1 hS1 hv0 hp4 hW1
        go_wp2_with fail
        rw [← HWX.out] at HL1 HJ1 HS1 HK1 HF1 ⊢
        clear HWX
        go_still_tail 9, (by kernel_rfl)
        change wpList _ _ _ _ _ W1.drew
        go_wp2_with (go_at_call 96; refine HF1.out.mono ?_; rintro e w2 ⟨⟨x2, rfl⟩, ⟨bad2, hb2, pl2, sn2, hj2⟩, hk2⟩
                     have hL2 : LxIs w2.drew B g jb sb { l with sn := wrap64 (l.sn + 1) } := HL1.out.keep (Kept.drew hk2) (by decide)
                     have hJ2 : JnIs w2.drew B jb bad2 pl2 sn2 := ⟨hj2.low, hj2.blk⟩
                     have hS2 : JsIs w2.drew B sb j := HS1.out.keep (Kept.drew hk2) (by decide) (by decide)
                     have hK2 : Kept w w2.drew B lxT := HK1.out.trans ((Kept.drew hk2).wide (by simp [lxT]))
                     have hF3 := HF2.out _ hK2 hS2
                     have e1 : w2.drew.cell? ⟨g, 1, none⟩ = some (.pointer (some ⟨sb, 0, none⟩)) := hL2.cells.2.1
                     have e1' : w2.cell? ⟨g, 1, none⟩ = some (.pointer (some ⟨sb, 0, none⟩)) := e1
                     have HF3 := Lib.hid hF3; have HL2 := Lib.hid hL2; have HJ2 := Lib.hid hJ2; have HK2 := Lib.hid hK2; have HB2 := Lib.hid hb2; clear hb2 hj2 hk2 hL2 hJ2 hS2 hK2 hF3)
        go_still_tail 9, (by kernel_rfl)
        change wpList _ _ _ _ _ w2.drew
        go_wp2_with (first
          | (go_at_call 97; refine HF3.out.mono ?_; rintro e w3 ⟨⟨x3, rfl⟩, ⟨j3, hs3, hp3⟩, hk3⟩
             have hL3 := HL2.out.keep hk3 (by decide)
             have hJ3 := HJ2.out.keep hk3 (by decide)
             have HLK := Lib.hid (lx_look hL3 hJ3 hs3); have HS3 := Lib.hid hs3; have HJ3 := Lib.hid hJ3; have HP3 := Lib.hid hp3; have HK3 := Lib.hid (HK2.out.trans (hk3.wide (by simp [lxT, jsT]))); clear hs3 hp3 hk3 hL3 hJ3)
          | (go_at_call 98; refine HLK.out.mono ?_; rintro e w4 ⟨rfl, ⟨l4, hL4, he4, hn4, h14, h24⟩, hk4⟩
             have HX : Hid (LexOk w4 B g jb sb (runPh ph (s.data.toList.take (k + 1))) false ∧ Kept w w4 B lxT) := by
               refine ⟨?_, HK3.out.trans (hk4.wide (by simp [lxT]))⟩
               rw [HSN.out]
               exact LexOk.after (l := l) (j := j) HP4.out HV0.out hL4 ⟨_, _, HJ3.out.keep hk4 (by decide)⟩ (HS3.out.keep hk4 (by decide) (by decide)) he4 HE.out HB2.out HP3.out h14 (fun h => (h24 h).trans HV0.out)
             clear hL4 he4 hn4 h14 h24 hk4))
        go_roundw
        case rel => exact ⟨k + 1, by go_num, by omega, HX⟩
        case measure => simp [intOf]; omega
    · obtain rfl : k = s.size := by omega
      have e : s.data.toList.take s.size = s.data.toList := by rw [Lib.size_eq, List.take_length]
      rw [e] at hp hb hv3 hv5
      have HF : Hid (LexOk wr B g jb sb (runPh ph s.data.toList) false) := ⟨l, bad, pl, sn, j, hL, hJ, hS, hE, hb, hp, hv3, hv5⟩
      have HK := Lib.hid hK
      clear hL hJ hS hK hb hp hv3 hv5
      go_wp2
      go_ret
      exact ⟨⟨_, rfl⟩, HF.out, HK.out⟩
end
end Go.Proofs.YtlhaaokldjdnnaaGreatDoor
namespace Go.Proofs.YtlhaaokldjdnnaaGreatDoor
open Go.RowKit
set_option linter.unusedVariables false
set_option linter.unusedSimpArgs false
section
variable {w w' : World} {B g jb sb : Nat} {l : Lx}

theorem lx_Feed {ph : Nat} (h : LexOk w B g jb sb ph false) (h5 : ph ≤ 5) (s : ByteArray) (hs : s.size ≤ 1000) (hok : ∀ (k : Nat) (hk : k < s.size), runPh ph (s.data.toList.take k) = 0 → padB (s[k].toNat : Int) = true ∨ (s[k].toNat : Int) = 60)
    (hB : B ≤ w.heap.size) (hB1 : 1 ≤ B) (hT : Ev.Told w) :
    Calls Tryz.prog 58 #[.pointer (some ⟨g, 0, none⟩), .string s] w fun e w' => (∃ x, e = .returned (.int .i64 x)) ∧ LexOk w' B g jb sb (runPh ph s.data.toList) false ∧ Kept w w' B lxT := by
  have HF := Lib.hid (lx_feed h h5 s hs hok hB hB1 hT)
  clear h hok hB hT
  go_enter Tryz.func58, Tryz.ntmps58
  go_wp2_with (go_at_call 74; refine HF.out.mono ?_; rintro e w1 ⟨⟨x, rfl⟩, h1, hk1⟩; have H1 := Lib.hid h1; have HK := Lib.hid hk1; clear h1 hk1)
  go_ret
  exact ⟨⟨_, rfl⟩, H1.out, HK.out⟩
theorem lx_end {ph : Nat} (h : LexOk w B g jb sb ph false) (h4 : 4 ≤ ph) (h5 : ph ≤ 5) :
    Calls Tryz.prog 92 #[.pointer (some ⟨g, 0, none⟩)] w fun e w' => (∃ x, e = .returned (.int .i64 x)) ∧ (∃ l', LxIs w' B g jb sb l' ∧ l'.v ≠ 0 ∧ (ph = 5 → l'.v = 2)) ∧ Kept w w' B lxT := by
  obtain ⟨l, bad, pl, sn, j, hL, hJ, hS, hE, hb, hp, hv3, hv5⟩ := h
  have hbad : bad = true := hb (by omega)
  subst hbad
  obtain ⟨c0, c1, c2, c3, c4, c5, c6⟩ := hL.cells
  obtain ⟨f2, f3, f4, f5, f6⟩ := hL.frees
  have hB : B ≤ w.heap.size := Nat.le_trans hL.low (Nat.le_of_lt (blk_lt hL.blk))
  have hk1 := hL.kept 6 (.bool true) (Kept.refl w B [109])
  have hL1 : LxIs (w.setCell ⟨g, 6, none⟩ (.bool true)) B g jb sb { l with ended := true } := ⟨hL.low, blk_set hL.blk 6 _⟩
  have hJ1 := hJ.keep hk1 (by decide)
  have hS1 := hS.keep hk1 (by decide) (by decide)
  cases hv : (l.v == 0)
  case false =>
    have hv' : (l.v != 0) = true := by rw [bne, hv]; rfl
    have hvn : l.v ≠ 0 := by intro e; rw [e] at hv; cases hv
    have HX : Hid ((∃ l', LxIs (w.setCell ⟨g, 6, none⟩ (.bool true)) B g jb sb l' ∧ l'.v ≠ 0 ∧ (ph = 5 → l'.v = 2)) ∧ Kept w (w.setCell ⟨g, 6, none⟩ (.bool true)) B lxT) := ⟨⟨_, hL1, hvn, hv5⟩, hk1.wide (by simp [lxT])⟩
    clear hL hJ hS hE hb hp hv3 hv5 hL1 hJ1 hS1 hk1
    go_enter Tryz.func92, Tryz.ntmps92
    go_wp2
    go_ret
    exact ⟨⟨_, rfl⟩, HX.out⟩
  case true =>
    have hv' : (l.v != 0) = false := by rw [bne, hv]; rfl
    have h5' : ph ≠ 5 := by
      intro e
      have := hv5 e
      rw [this] at hv
      cases hv
    obtain ⟨W1, hW1⟩ : ∃ W1, W1 = w.setCell ⟨g, 6, none⟩ (.bool true) := ⟨_, rfl⟩
    have HBG := Lib.hid (jn_Begun hJ1)
    have HST := Lib.hid (jn_State hJ1)
    have HSS := Lib.hid (js_State hS1)
    simp only [if_true] at HST
    have HL1 := Lib.hid hL1
    have HK1 := Lib.hid hk1
    have HB := Lib.hid hB
    clear hL hJ hS hE hb hp hv3 hv5 hL1 hJ1 hS1 hk1 hB hW1
    go_enter Tryz.func92, Tryz.ntmps92
    go_wp2_with (first
      | (go_at_call 126; refine HBG.out.mono ?_; rintro e _ ⟨rfl, rfl⟩)
      | (go_at_call 128; refine HST.out.mono ?_; rintro e _ ⟨rfl, rfl⟩)
      | (go_at_call 129; refine HSS.out.mono ?_; rintro e w2 ⟨rfl, hb2⟩; have HL2 := Lib.hid (HL1.out.below hb2); have HK2 := Lib.hid (HK1.out.trans (Kept.of hb2 (Nat.le_trans HB.out HK1.out.below.size) [109])); clear hb2)
      | (go_at_call 127; refine (lx_settle HL2.out _ _).mono ?_; rintro e w3 ⟨rfl, h3, hk3⟩; obtain ⟨d0, d1, d2, d3, d4, d5, d6⟩ := h3.cells; have H3 := Lib.hid h3; have HK3 := Lib.hid (HK2.out.trans hk3); clear h3 hk3))
    all_goals
      go_ret
      exact ⟨⟨_, rfl⟩, ⟨_, H3.out, by simp, fun h => absurd h h5'⟩, HK3.out.wide (by simp [lxT])⟩
theorem lx_End {ph : Nat} (h : LexOk w B g jb sb ph false) (h4 : 4 ≤ ph) (h5 : ph ≤ 5) :
    Calls Tryz.prog 67 #[.pointer (some ⟨g, 0, none⟩)] w fun e w' => (∃ x, e = .returned (.int .i64 x)) ∧ (∃ l', LxIs w' B g jb sb l' ∧ l'.v ≠ 0 ∧ (ph = 5 → l'.v = 2)) ∧ Kept w w' B lxT := by
  have HF := Lib.hid (lx_end h h4 h5)
  clear h
  go_enter Tryz.func67, Tryz.ntmps67
  go_wp2_with (go_at_call 92; refine HF.out.mono ?_; rintro e w1 ⟨⟨x, rfl⟩, h1, hk1⟩; have H1 := Lib.hid h1; have HK := Lib.hid hk1; clear h1 hk1)
  go_ret
  exact ⟨⟨_, rfl⟩, H1.out, HK.out⟩
theorem lx_Verdict (h : LxIs w B g jb sb l) : Calls Tryz.prog 68 #[.pointer (some ⟨g, 0, none⟩)] w fun e w' => e = .returned (.int .i64 l.v) ∧ w = w' := by
  obtain ⟨c0, c1, c2, c3, c4, c5, c6⟩ := h.cells
  clear h
  go_enter Tryz.func68, Tryz.ntmps68
  go_wp2
  go_ret
  exact ⟨rfl, rfl⟩
theorem lx_Reason (h : LxIs w B g jb sb l) : Calls Tryz.prog 69 #[.pointer (some ⟨g, 0, none⟩)] w fun e w' => e = .returned (.string l.rs) ∧ w = w' := by
  obtain ⟨c0, c1, c2, c3, c4, c5, c6⟩ := h.cells
  clear h
  go_enter Tryz.func69, Tryz.ntmps69
  go_wp2
  go_ret
  exact ⟨rfl, rfl⟩
theorem lx_At (h : LxIs w B g jb sb l) : Calls Tryz.prog 70 #[.pointer (some ⟨g, 0, none⟩)] w fun e w' => e = .returned (.int .i64 l.pos) ∧ w = w' := by
  obtain ⟨c0, c1, c2, c3, c4, c5, c6⟩ := h.cells
  clear h
  go_enter Tryz.func70, Tryz.ntmps70
  go_wp2
  go_ret
  exact ⟨rfl, rfl⟩
/-- New machines. -/
theorem jn_New (w : World) : Calls Tryz.prog 47 #[.int .i64 9] w fun e w' => e = .returned (.tuple #[.pointer (some ⟨w.heap.size, 0, none⟩), .int .i64 0]) ∧ w.alloc (.cells (jnCells false 1 (-1) 0) 124) = w' := by
  go_enter Tryz.func47, Tryz.ntmps47
  go_wp2
  go_ret2
  exact ⟨rfl, rfl⟩
def js0 : Js := { A := none, n := 0, cap := 0, zs := [], pos := 0, by_ := 0, taken := false, said := .empty, last := 0, broken := false, bad := false, place := -1, pieces := 0, ends := 0, seen := 0 }
theorem js_New (w : World) : Calls Tryz.prog 48 #[.int .i64 9] w fun e w' => e = .returned (.tuple #[.pointer (some ⟨w.heap.size, 0, none⟩), .int .i64 0]) ∧ w.alloc (.cells js0.cells 126) = w' := by
  go_enter Tryz.func48, Tryz.ntmps48
  go_wp2
  go_ret2
  exact ⟨rfl, rfl⟩
def lx0 : Lx := { v := 0, rs := .empty, pos := -1, sn := 0, ended := false }
theorem lx_fresh (w : World) (hB : B ≤ w.heap.size) : Calls Tryz.prog 34 #[.int .i64 9] w fun e w' => e = .returned (.tuple #[.pointer (some ⟨w.heap.size + 2, 0, none⟩), .int .i64 0]) ∧ LexOk w' B (w.heap.size + 2) w.heap.size (w.heap.size + 1) 0 false ∧ Below w.heap.size w w' := by
  have H1 := Lib.hid jn_New
  have H2 := Lib.hid js_New
  have HB := Lib.hid hB
  clear hB
  go_enter Tryz.func34, Tryz.ntmps34
  go_wp2_with (first
    | (go_at_call 47; refine (H1.out _).mono ?_; rintro e _ ⟨rfl, rfl⟩)
    | (go_at_call 48; refine (H2.out _).mono ?_; rintro e _ ⟨rfl, rfl⟩))
  go_ret2
  have hB := HB.out
  refine ⟨by simp, ⟨lx0, false, -1, 0, js0, ⟨by omega, ?_⟩, ⟨hB, ?_⟩, ⟨by omega, ?_, Row.nil_ _ _ _, by decide, by decide⟩, rfl, fun h => absurd h (by decide), fun _ => ⟨rfl, rfl, rfl, rfl⟩, fun _ => rfl, fun h => by cases h⟩, ((Below.refl w.heap.size w).alloc (Nat.le_refl _) _ |>.alloc (by simp) _).alloc (by simp; omega) _⟩
  · have := heap_alloc_new ((w.alloc (.cells (jnCells false 1 (-1) 0) 124)).alloc (.cells js0.cells 126)) (.cells (lxCells w.heap.size (w.heap.size + 1) lx0) 109)
    rw [show ((w.alloc (.cells (jnCells false 1 (-1) 0) 124)).alloc (.cells js0.cells 126)).heap.size = w.heap.size + 2 by simp] at this
    exact this
  · exact ((Below.heap_alloc _ _ _ (by simp; omega)).trans (Below.heap_alloc _ _ _ (by simp))).trans (heap_alloc_new w _)
  · refine (Below.heap_alloc _ _ _ (by simp)).trans ?_
    have := heap_alloc_new (w.alloc (.cells (jnCells false 1 (-1) 0) 124)) (.cells js0.cells 126)
    simpa using this
theorem lx_New (w : World) (hB : B ≤ w.heap.size) : Calls Tryz.prog 20 #[.int .i64 9] w fun e w' => e = .returned (.tuple #[.pointer (some ⟨w.heap.size + 2, 0, none⟩), .int .i64 0]) ∧ LexOk w' B (w.heap.size + 2) w.heap.size (w.heap.size + 1) 0 false ∧ Below w.heap.size w w' := by
  have H1 := Lib.hid (lx_fresh w hB)
  clear hB
  go_enter Tryz.func20, Tryz.ntmps20
  go_wp2_with (go_at_call 34; refine H1.out.mono ?_; rintro e w1 ⟨rfl, h1, hb1⟩; have HL := Lib.hid h1; have HB := Lib.hid hb1; clear h1 hb1)
  go_ret2
  exact ⟨rfl, HL.out, HB.out⟩
end
end Go.Proofs.YtlhaaokldjdnnaaGreatDoor
namespace Go.Proofs.YtlhaaokldjdnnaaGreatDoor
open Go.RowKit
set_option linter.unusedVariables false
set_option linter.unusedSimpArgs false

theorem Ev.HeadAt.cells {w : World} {g d : Nat} (h : Ev.HeadAt w g d) : w.cell? ⟨g, 0, none⟩ = some (.string ⟨#[67, 111, 110, 116, 101, 110, 116, 45, 84, 121, 112, 101]⟩) ∧ w.cell? ⟨g, 1, none⟩ = some (.string ⟨#[116, 101, 120, 116, 47, 104, 116, 109, 108]⟩) := by
  obtain ⟨_, C, t, fr, h1, h2, _⟩ := h
  obtain ⟨v0, k0, e0⟩ := h2 0 _ rfl
  obtain ⟨v1, k1, e1⟩ := h2 1 _ rfl
  have e0 : v0 = _ := e0
  have e1 : v1 = _ := e1
  subst e0 e1
  exact ⟨by rw [Ev.cell_of h1]; exact k0, by rw [Ev.cell_of h1]; exact k1⟩
theorem Ev.HeadAt.lt {w : World} {g d : Nat} (h : Ev.HeadAt w g d) : g < w.heap.size := by
  obtain ⟨_, C, t, fr, h1, _⟩ := h
  exact blk_lt h1
theorem clone_one {w : World} {g d : Nat} (h : Ev.HeadAt w g d) : Calls Tryz.prog 35 #[.slice (some ⟨g, 0, none⟩) 1 (1 + d)] w fun e w' => (∃ g' d', e = .returned (.slice (some ⟨g', 0, none⟩) 1 (1 + d')) ∧ w.heap.size ≤ g' ∧ Ev.HeadAt w' g' d') ∧ Below w.heap.size w w' := by
  obtain ⟨c0, c1⟩ := h.cells
  have hlt := h.lt
  have e0 : (w.alloc (.cells #[] 31)).cell? ⟨g, 0, none⟩ = _ := (World.cell?_of_block (Below.heap_alloc w _ _ hlt)).trans c0
  have e1 : (w.alloc (.cells #[] 31)).cell? ⟨g, 1, none⟩ = _ := (World.cell?_of_block (Below.heap_alloc w _ _ hlt)).trans c1
  have hb := h.1
  have hcap : ¬ 281474976710656 < Builtin.nextslicecap 1 0 * Tryz.t31.bytes := by decide +kernel
  have hnil : ∀ w : World, (binOp BinOp.eql 32 (.slice (some ⟨g, 0, none⟩) 1 (1 + d)) (.slice none 0 0)).run Tryz.prog w = .ok (.bool false) w := fun w => by
    first | kernel_rfl | simp [go_sem]
  clear h
  go_enter Tryz.func35, Tryz.ntmps35
  go_wp2
  have hge : 1 ≤ (Question.appendCap 1 0 31).cut (w.tape w.drawn (Question.appendCap 1 0 31)) := grownCap_ge w 1 0 31
  generalize (Question.appendCap 1 0 31).cut (w.tape w.drawn (Question.appendCap 1 0 31)) = n at hge
  obtain ⟨d', rfl⟩ : ∃ d', n = 1 + d' := ⟨n - 1, by omega⟩
  have hrow : ∀ C : Array Value, ((w.alloc (.cells #[] 31)).alloc (.cells C 31)).drew.heap[w.heap.size + 1]? = some (.cells C 31 (0, 0)) := fun C => by
    have := heap_alloc_new (w.alloc (.cells #[] 31)) (.cells C 31)
    rwa [World.size_alloc] at this
  go_ret
  refine ⟨⟨w.heap.size + 1, d', rfl, by omega, ?_, ?_⟩, ?_⟩
  · show 1 ≤ _
    have : 1 ≤ g := hb
    omega
  · refine ⟨_, 31, (0, 0), hrow _, fun j x hx => ?_, fun j _ => by simp, ⟨fun e => absurd e (by decide), fun e he => ⟨?_, fun e => absurd e (by decide)⟩⟩, ?_⟩
    · have hj : j < 2 := (List.getElem?_eq_some_iff.1 hx).1
      rcases (by omega : j = 0 ∨ j = 1) with rfl | rfl
      · obtain rfl : _ = x := Option.some.inj hx
        exact ⟨_, by rw [Array.getElem?_append_left (by simp)]; rfl, rfl⟩
      · obtain rfl : _ = x := Option.some.inj hx
        exact ⟨_, by rw [Array.getElem?_append_left (by simp)]; rfl, rfl⟩
    · have h32 : Ev.hsz / Ev.mark = 32 := by decide
      rw [h32] at he
      exact (Nat.succ.inj he)
    · have : Ev.st Ev.hsz = 2 := by decide
      rw [this, Array.size_append, size_zeroCells]
      show 0 + 2 + d' * 2 ≤ 2 + (1 + d' - 1) * 2
      omega
  · exact Below.drew (((Below.refl _ _).alloc (Nat.le_refl _) _).alloc (by simp) _)
end Go.Proofs.YtlhaaokldjdnnaaGreatDoor
