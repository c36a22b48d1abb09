/-
  Parts, one behind the other: The plain law: what the document says of a text that is HTML, the patterns of the program say, too. No condition but that a text is not too long. | The plain law: how a text that is HTML begins, what a remark is, how far the lexer comes. No condition. | The reference's Lower and Html. No condition but that a text is not too long. | The reference's Html: if it says yes, a text begins with a remark, or with a tag that ends. No condition but that a text is not too long, and that the tables lie as they were laid.
-/
import Derived.Test.YtlhaaokldjdnnaaGreatDoorLxAll
import Derived.Test.YtlhaaokldjdnnaaGreatDoorMask2
import Derived.Test.YtlhaaokldjdnnaaGreatDoorJs2All
import Derived.Test.YtlhaaokldjdnnaaGreatDoorEvL9
namespace Go.Proofs.YtlhaaokldjdnnaaGreatDoor
open Go.RowKit
set_option linter.unusedVariables false
set_option linter.unusedSimpArgs false

/-- A small letter for a great one. -/
def lowB (c : UInt8) : UInt8 := if 65 ≤ c.toNat ∧ c.toNat ≤ 90 then UInt8.ofNat (c.toNat + 32) else c
theorem lowB_nat (c : UInt8) : (lowB c).toNat = if 65 ≤ c.toNat ∧ c.toNat ≤ 90 then c.toNat + 32 else c.toNat := by
  unfold lowB
  split
  · rename_i h
    rw [UInt8.toNat_ofNat']
    omega
  · rfl
/-- What is no small letter. -/
def greatB (c : UInt8) : Bool := decide (c.toNat < 97)
def maskB (c : UInt8) : UInt8 := if 65 ≤ c.toNat ∧ c.toNat ≤ 90 then 223 else 255
theorem mask_letters : ∀ n, n < 26 → UInt8.ofNat (65 + n) &&& 223 = UInt8.ofNat (65 + n) ∧ UInt8.ofNat (97 + n) &&& 223 = UInt8.ofNat (65 + n) := by decide
theorem fit_byte (c t : UInt8) (h : lowB c = lowB t) (ht : greatB t = true) : (c &&& maskB t == t) = true := by
  rw [beq_iff_eq]
  have h1 := congrArg UInt8.toNat h
  rw [lowB_nat, lowB_nat] at h1
  have ht : t.toNat < 97 := of_decide_eq_true ht
  unfold maskB
  by_cases hl : 65 ≤ t.toNat ∧ t.toNat ≤ 90
  · rw [if_pos hl] at h1 ⊢
    obtain ⟨n, hn, hn2⟩ : ∃ n, n < 26 ∧ t.toNat = 65 + n := ⟨t.toNat - 65, by omega, by omega⟩
    have k := mask_letters n hn
    have et : t = UInt8.ofNat (65 + n) := by rw [← hn2, UInt8.ofNat_toNat]
    have hc : c.toNat = 65 + n ∨ c.toNat = 97 + n := by split at h1 <;> omega
    rcases hc with hc | hc
    · have ec : c = UInt8.ofNat (65 + n) := by rw [← hc, UInt8.ofNat_toNat]
      rw [ec, et]
      exact k.1
    · have ec : c = UInt8.ofNat (97 + n) := by rw [← hc, UInt8.ofNat_toNat]
      rw [ec, et]
      exact k.2
  · rw [if_neg hl] at h1 ⊢
    have hc : c.toNat = t.toNat := by split at h1 <;> omega
    have : c = t := UInt8.toNat_inj.1 hc
    subst this
    apply UInt8.toNat_inj.1
    rw [UInt8.toNat_and]
    have : c.toNat < 256 := UInt8.toNat_lt c
    show c.toNat &&& 255 = c.toNat
    rw [show (255 : Nat) = 2 ^ 8 - 1 from rfl, Nat.and_two_pow_sub_one_eq_mod]
    omega
theorem fit_text : ∀ (t l : List UInt8), (l.take t.length).map lowB = t.map lowB → t.length ≤ l.length → (∀ c ∈ t, greatB c = true) → fitB l t (t.map maskB) = true
  | [], l, _, _, _ => by cases l <;> rfl
  | x :: t, [], _, h, _ => by simp at h
  | x :: t, c :: l, h, hl, hg => by
    simp only [List.length_cons, List.take_succ_cons, List.map_cons, List.cons.injEq] at h
    show ((c &&& maskB x == x) && fitB l t (t.map maskB)) = true
    rw [fit_byte c x h.1 (hg x (by simp)), Bool.true_and]
    exact fit_text t l h.2 (by simpa using hl) fun d hd => hg d (by simp [hd])
theorem white_has (c : UInt8) : whiteL.contains c = hasB whiteL c := by
  rw [Bool.eq_iff_iff]
  unfold hasB
  simp only [List.contains_iff_mem, List.any_eq_true, beq_iff_eq]
  exact ⟨fun h => ⟨c, h, rfl⟩, fun ⟨d, hd, e⟩ => e ▸ hd⟩
theorem drop_pad : ∀ l : List UInt8, l.drop (padN l whiteL) = skipL l
  | [] => rfl
  | c :: l => by
    unfold padN skipL
    rw [List.dropWhile_cons, white_has]
    cases hasB whiteL c
    · rfl
    · simp only [if_true, List.drop_succ_cons]
      exact drop_pad l
theorem pad_len (l : List UInt8) : padN l whiteL + (skipL l).length = l.length := by
  rw [← drop_pad, List.length_drop]
  have := padN_le l whiteL
  omega
/-- The tags. -/
def tagsL : List (List UInt8) := [[33, 68, 79, 67, 84, 89, 80, 69, 32, 72, 84, 77, 76], [72, 84, 77, 76], [72, 69, 65, 68], [83, 67, 82, 73, 80, 84], [73, 70, 82, 65, 77, 69], [72, 49], [68, 73, 86], [70, 79, 78, 84], [84, 65, 66, 76, 69], [65], [83, 84, 89, 76, 69], [84, 73, 84, 76, 69], [66], [66, 79, 68, 89], [66, 82], [80]]
/-- A text begins with a tag, and the tag ends. -/
def TagFit (l t : List UInt8) : Prop := (l.take (t.length + 1)).map lowB = 60 :: t.map lowB ∧ ∃ z, l[t.length + 1]? = some z ∧ (z = 32 ∨ z = 62)
def HtmlL (l : List UInt8) : Prop := [60, 33, 45, 45].isPrefixOf l = true ∨ ∃ t ∈ tagsL, TagFit l t
theorem tags_great : ∀ t ∈ tagsL, (∀ c ∈ (60 :: t), greatB c = true) ∧ t.length < 20 ∧ 0 < t.length := by decide
def whiteT : ByteArray := ⟨#[9, 10, 12, 13, 32]⟩
theorem tag_match {s : ByteArray} {t : List UInt8} (ht : t ∈ tagsL) (h : TagFit (skipL s.data.toList) t) : matchB s ⟨(60 :: t).toArray⟩ ⟨((60 :: t).map maskB).toArray⟩ whiteT = true := by
  obtain ⟨h1, z, hz, _⟩ := h
  obtain ⟨hg, h20, h0⟩ := tags_great t ht
  have hlt := (List.getElem?_eq_some_iff.1 hz).1
  have hp := pad_len s.data.toList
  unfold matchB goodB
  rw [show whiteT.data.toList = whiteL from rfl, drop_pad]
  have e1 : (⟨(60 :: t).toArray⟩ : ByteArray).size = t.length + 1 := by simp [ByteArray.size]
  have e2 : (⟨((60 :: t).map maskB).toArray⟩ : ByteArray).size = t.length + 1 := by simp [ByteArray.size]
  rw [e1, e2]
  have hf : fitB (skipL s.data.toList) (60 :: t) ((60 :: t).map maskB) = true := fit_text (60 :: t) _ h1 (by simp only [List.length_cons]; omega) hg
  have e3 : fitB (skipL s.data.toList) (⟨(60 :: t).toArray⟩ : ByteArray).data.toList (⟨((60 :: t).map maskB).toArray⟩ : ByteArray).data.toList = true := hf
  rw [e3]
  have hs := Lib.size_eq s
  simp only [Bool.true_and, Bool.and_eq_true, decide_eq_true_eq, beq_self_eq_true, and_true]
  omega
theorem remark_match {s : ByteArray} (h : [60, 33, 45, 45].isPrefixOf (skipL s.data.toList) = true) : matchB s ⟨#[60, 33, 45, 45]⟩ ⟨#[255, 255, 255, 255]⟩ whiteT = true := by
  obtain ⟨r, hr⟩ := List.isPrefixOf_iff_prefix.1 h
  have hp := pad_len s.data.toList
  have hs := Lib.size_eq s
  unfold matchB goodB
  rw [show whiteT.data.toList = whiteL from rfl, drop_pad]
  have hf : fitB (skipL s.data.toList) (⟨#[60, 33, 45, 45]⟩ : ByteArray).data.toList (⟨#[255, 255, 255, 255]⟩ : ByteArray).data.toList = true := by
    rw [← hr]
    cases r <;> rfl
  rw [hf]
  have hl : (skipL s.data.toList).length = 4 + r.length := by rw [← hr]; simp; omega
  show ((decide (1 ≤ 4) && decide (4 ≤ 64) && (4 == 4)) && (true && decide (4 ≤ s.size - padN s.data.toList whiteL))) = true
  simp only [Bool.true_and, Bool.and_eq_true, decide_eq_true_eq, beq_self_eq_true, and_true]
  omega
/-- Where a tag ends. -/
theorem tag_end {s : ByteArray} {t : List UInt8} (h : TagFit (skipL s.data.toList) t) : ∃ hk : padN s.data.toList whiteL + (t.length + 1) < s.size, s[padN s.data.toList whiteL + (t.length + 1)] = 32 ∨ s[padN s.data.toList whiteL + (t.length + 1)] = 62 := by
  obtain ⟨h1, z, hz, h2⟩ := h
  rw [← drop_pad, List.getElem?_drop] at hz
  have hlt := (List.getElem?_eq_some_iff.1 hz).1
  have hk : padN s.data.toList whiteL + (t.length + 1) < s.size := by rw [Lib.size_eq]; exact hlt
  refine ⟨hk, ?_⟩
  have e := byte_at s _ hk
  rw [List.getElem?_eq_getElem hlt] at hz
  have hz := Option.some.inj hz
  rw [e] at hz
  rw [hz]
  exact h2
/-- What a text that is HTML begins with. -/
theorem html_cases {l : List UInt8} (h : HtmlL l) : (∃ r, l = 60 :: 33 :: 45 :: 45 :: r) ∨ (∃ c r, l = 60 :: c :: r ∧ c ≠ 33) ∨ (∃ c r, l = 60 :: 33 :: c :: r ∧ c ≠ 45) := by
  rcases h with h | ⟨t, ht, h1, z, hz, _⟩
  · obtain ⟨r, hr⟩ := List.isPrefixOf_iff_prefix.1 h
    exact .inl ⟨r, hr.symm⟩
  · right
    have two : ∀ (x y : UInt8) (u l : List UInt8), (l.take (u.length + 3)).map lowB = 60 :: lowB x :: lowB y :: u.map lowB → ∃ c d r, l = 60 :: c :: d :: r ∧ lowB c = lowB x ∧ lowB d = lowB y := by
      intro x y u l h
      match l, h with
      | [], h => simp at h
      | [_], h => simp at h
      | [_, _], h => simp at h
      | a :: c :: d :: r, h =>
        simp only [List.take_succ_cons, List.map_cons, List.cons.injEq] at h
        refine ⟨c, d, r, ?_, h.2.1, h.2.2.1⟩
        have ha : a = 60 := by
          have := congrArg UInt8.toNat h.1
          rw [lowB_nat] at this
          apply UInt8.toNat_inj.1
          split at this
          · simp at this; omega
          · exact this
        rw [ha]
    have one : ∀ (x : UInt8) (u l : List UInt8), (l.take (u.length + 2)).map lowB = 60 :: lowB x :: u.map lowB → ∃ c r, l = 60 :: c :: r ∧ lowB c = lowB x := by
      intro x u l h
      match l, h with
      | [], h => simp at h
      | [_], h => simp at h
      | a :: c :: r, h =>
        simp only [List.take_succ_cons, List.map_cons, List.cons.injEq] at h
        refine ⟨c, r, ?_, h.2.1⟩
        have ha : a = 60 := by
          have := congrArg UInt8.toNat h.1
          rw [lowB_nat] at this
          apply UInt8.toNat_inj.1
          split at this
          · simp at this; omega
          · exact this
        rw [ha]
    have neq : ∀ (c x y : UInt8), lowB c = lowB x → lowB x ≠ lowB y → c ≠ y := fun c x y h hn e => hn (by rw [← h, e])
    by_cases hd : t = [33, 68, 79, 67, 84, 89, 80, 69, 32, 72, 84, 77, 76]
    · subst hd
      obtain ⟨c, d, r, rfl, hc, hd⟩ := two 33 68 [79, 67, 84, 89, 80, 69, 32, 72, 84, 77, 76] l h1
      by_cases h33 : c = 33
      · subst h33
        exact .inr ⟨d, r, rfl, neq d 68 45 hd (by decide)⟩
      · exact .inl ⟨c, d :: r, rfl, h33⟩
    · left
      have hx : ∀ t ∈ tagsL, t ≠ [33, 68, 79, 67, 84, 89, 80, 69, 32, 72, 84, 77, 76] → ∃ x ∈ ([72, 83, 73, 68, 70, 84, 65, 66, 80] : List UInt8), ∃ u, t = x :: u := by
        intro t ht hn
        simp only [tagsL, List.mem_cons, List.not_mem_nil, or_false] at ht
        rcases ht with rfl | rfl | rfl | rfl | rfl | rfl | rfl | rfl | rfl | rfl | rfl | rfl | rfl | rfl | rfl | rfl
        · exact absurd rfl hn
        all_goals exact ⟨_, by decide, _, rfl⟩
      obtain ⟨x, hxm, u, rfl⟩ := hx t ht hd
      obtain ⟨c, r, rfl, hc⟩ := one x u l h1
      have hq : ∀ x ∈ ([72, 83, 73, 68, 70, 84, 65, 66, 80] : List UInt8), lowB x ≠ lowB 33 := by decide
      exact ⟨c, r, rfl, neq c x 33 hc (hq x hxm)⟩
end Go.Proofs.YtlhaaokldjdnnaaGreatDoor
namespace Go.Proofs.YtlhaaokldjdnnaaGreatDoor
open Go.RowKit
set_option linter.unusedVariables false
set_option linter.unusedSimpArgs false

theorem stepPh_le5 (p : Nat) (z : Int) (h : p ≤ 5) : stepPh p z ≤ 5 := by
  match p, h with
  | 0, _ => show (if z == 60 then 1 else 0) ≤ 5; split <;> decide
  | 1, _ => show (if z == 33 then 2 else 5) ≤ 5; split <;> decide
  | 2, _ => show (if z == 45 then 3 else 5) ≤ 5; split <;> decide
  | 3, _ => show (if z == 45 then 4 else 5) ≤ 5; split <;> decide
  | p + 4, h => exact h
theorem runPh_le : ∀ (l : List UInt8) (p : Nat), p ≤ 5 → runPh p l ≤ 5
  | [], p, h => h
  | c :: l, p, h => runPh_le l _ (stepPh_le5 p _ h)
theorem html_law {l : List UInt8} (h : HtmlL (skipL l)) : ∃ bl r, l = bl ++ 60 :: r ∧ (∀ c ∈ bl, hasB whiteL c = true) ∧ ((remarkB l = true ∧ runPh 0 l = 4) ∨ (remarkB l = false ∧ runPh 0 l = 5)) := by
  obtain ⟨bl, hl, hb⟩ := skip_split l
  have no : ∀ x r, x ≠ 33 → ([60, 33, 45, 45] : List UInt8).isPrefixOf (60 :: x :: r) = false := fun x r hx => by
    simp [List.isPrefixOf]
    exact fun e => absurd e.symm hx
  have no2 : ∀ x r, x ≠ 45 → ([60, 33, 45, 45] : List UInt8).isPrefixOf (60 :: 33 :: x :: r) = false := fun x r hx => by
    simp [List.isPrefixOf]
    exact fun e => absurd e.symm hx
  rcases html_cases h with ⟨r, hr⟩ | ⟨c, r, hr, hc⟩ | ⟨c, r, hr, hc⟩
  · rw [hr] at hl
    refine ⟨bl, 33 :: 45 :: 45 :: r, hl, hb, .inl ⟨?_, ?_⟩⟩
    · unfold remarkB
      rw [hl, skipR_eq _ bl hb]
      simp [List.isPrefixOf]
    · rw [hl]
      exact run_remark hb
  · rw [hr] at hl
    refine ⟨bl, c :: r, hl, hb, .inr ⟨?_, ?_⟩⟩
    · unfold remarkB
      rw [hl, skipR_eq _ bl hb]
      exact no c r hc
    · rw [hl]
      exact run_tag hb hc
  · rw [hr] at hl
    refine ⟨bl, 33 :: c :: r, hl, hb, .inr ⟨?_, ?_⟩⟩
    · unfold remarkB
      rw [hl, skipR_eq _ bl hb]
      exact no2 c r hc
    · rw [hl]
      exact run_doc hb hc
/-- The lexer's condition, for both pieces. -/
theorem feed_first {s b : ByteArray} {bl r : List UInt8} (hl : s.data.toList = bl ++ 60 :: r) (hb : ∀ c ∈ bl, hasB whiteL c = true) {K : Nat} (hb1 : b.data.toList = s.data.toList.take K) (k : Nat) (hk : k < b.size) (h0 : runPh 0 (b.data.toList.take k) = 0) : padB (b[k].toNat : Int) = true ∨ (b[k].toNat : Int) = 60 := by
  have hkl : k < (s.data.toList.take K).length := by rw [← hb1, ← Lib.size_eq]; exact hk
  have hks : k < s.data.toList.length := by rw [List.length_take] at hkl; omega
  have hkK : k < K := by rw [List.length_take] at hkl; omega
  have e : b[k] = s.data.toList[k] := by
    rw [← byte_at b k hk]
    simp only [hb1]
    rw [List.getElem_take]
  rw [e]
  refine feed_cond hl hb k hks ?_
  rw [hb1, List.take_take, Nat.min_eq_left (by omega)] at h0
  exact h0
theorem feed_second {s b : ByteArray} {bl r : List UInt8} (hl : s.data.toList = bl ++ 60 :: r) (hb : ∀ c ∈ bl, hasB whiteL c = true) {K : Nat} (hb1 : b.data.toList = s.data.toList.drop K) (k : Nat) (hk : k < b.size) (h0 : runPh (runPh 0 (s.data.toList.take K)) (b.data.toList.take k) = 0) : padB (b[k].toNat : Int) = true ∨ (b[k].toNat : Int) = 60 := by
  have hkl : k < (s.data.toList.drop K).length := by rw [← hb1, ← Lib.size_eq]; exact hk
  rw [List.length_drop] at hkl
  have hks : K + k < s.data.toList.length := by omega
  have e : b[k] = s.data.toList[K + k] := by
    rw [← byte_at b k hk]
    simp only [hb1]
    rw [List.getElem_drop]
  rw [e]
  refine feed_cond hl hb (K + k) hks ?_
  rw [← runPh_append, hb1] at h0
  have e2 : s.data.toList.take K ++ (s.data.toList.drop K).take k = s.data.toList.take (K + k) := by rw [List.take_add]
  rw [e2] at h0
  exact h0
end Go.Proofs.YtlhaaokldjdnnaaGreatDoor
namespace Go.Proofs.YtlhaaokldjdnnaaGreatDoor
open Go.RowKit
set_option linter.unusedVariables false
set_option linter.unusedSimpArgs false

def vu (c : UInt8) : Value := .int .u8 (c.toNat : Int)
theorem row_fresh5 (w : World) : Row (w.alloc (.cells #[] 5)) w.heap.size 5 (.slice (some ⟨w.heap.size, 0, none⟩) 0 0) 0 [] :=
  ⟨rfl, .inr ⟨w.heap.size, 0, 0, #[], rfl, Nat.le_refl _, heap_alloc_new w _, Nat.le_refl _, Nat.zero_le _, by simp, fun j u hj => by simp at hj⟩⟩
theorem conv_row {W : World} {B n c : Nat} {a : Addr} {l : List UInt8} (h : Row W B 5 (.slice (some a) n c) n (l.map vu)) : (convert 69 9 (.slice (some a) n c)).run Tryz.prog W = .ok (.string ⟨l.toArray⟩) W := by
  have hl : l.length = n := by simpa using h.1
  subst hl
  rcases h.2 with ⟨h0, _⟩ | ⟨g, off, cap, cur, hv, hb, hg, h1, h2, h3, hx⟩
  · cases h0
  · cases hv
    refine run_convert_bytes_back (P := Tryz.prog) W 69 9 5 ⟨g, off, none⟩ c l Tryz.underlying69 Tryz.underlying5 Tryz.underlying9 fun j hj => ?_
    rw [Addr.add_lit, cell_of_row W g _ cur 5 (0, 0) hg]
    exact hx j _ (by simp [vu, hj])
theorem wpList_u8 {ops : Array Oper} {rest : List Oper} {o : Oper} {a : Act} {w : World} {Q : Exit → Act → World → Prop} (hgd : o.guard = none) (s x : Operand)
    (ho : o.op = .call { callee := .builtin .append, args := #[s, x], argTypes := #[69, 69] }) {B : Nat} {A : Option Addr} {n cap : Nat} {zs : List UInt8} {ad : Addr} {u : UInt8} (hs : a.eval s = .slice A n cap) (h : Row w B 5 (.slice A n cap) n (zs.map vu)) (hx : a.eval x = .slice (some ad) 1 1)
    (hu : w.cell? ad = some (.int .u8 (u.toNat : Int))) (hn : n ≤ 1000000000) (hB : B ≤ w.heap.size)
    (k : ∀ A' c' w', Row w' B 5 (.slice (some A') (n + 1) c') (n + 1) ((zs ++ [u]).map vu) → Below B w w' → wpList Tryz.prog ops Q rest (a.put o.dst (.slice (some A') (n + 1) c')) w') : wpList Tryz.prog ops Q (o :: rest) a w := by
  obtain ⟨i, hi, hz0, hz1, hz2⟩ := info_parts infoU5
  refine wpList_append_row hgd s x 69 ho B 5 i (.int .u8 0) Tryz.underlying69 hi hz0 hz1 (by omega) rfl (.slice A n cap) n _ hs h ad 1 (.int .u8 (u.toNat : Int)) hx hu rfl hn hB fun A' c' w' hr hg => ?_
  have e : (zs ++ [u]).map vu = zs.map vu ++ [.int .u8 (u.toNat : Int)] := by rw [List.map_append]; rfl
  rw [← e] at hr
  obtain ⟨g, off, cap', hv, _⟩ := hr.get (j := 0) (by omega)
  cases hv
  exact k _ _ w' hr ((Below.refl B w).grown hg hB fun b hb => (h.lt b hb).1)
def lowT (s : ByteArray) : ByteArray := ⟨(s.data.toList.map lowB).toArray⟩
set_option maxRecDepth 100000 in
theorem lower_is (s : ByteArray) (hs : s.size ≤ 1000) (w : World) : Calls Tryz.prog 15 #[.string s] w fun e w' => e = .returned (.string (lowT s)) ∧ Below w.heap.size w w' := by
  have hfull : s.data.toList.take s.size = s.data.toList := List.take_of_length_le (by rw [← Lib.size_eq s]; exact Nat.le_refl _)
  have HFULL := Lib.hid hfull
  have HW0 := Lib.hid (row_fresh5 w)
  clear hfull
  go_enter Tryz.func15, Tryz.ntmps15
  go_wp2
  go_loopw [3, 4] (fun o iv wr => ∃ (i c : Nat) (A : Addr), o = .slice (some A) i c ∧ iv = .int .i64 i ∧ i ≤ s.size ∧ Hid (Row wr w.heap.size 5 (.slice (some A) i c) i (((s.data.toList.take i).map lowB).map vu) ∧ Below w.heap.size w wr)) (fun _ iv _ => s.size - (intOf iv).toNat)
  case atStart => exact ⟨0, 0, ⟨w.heap.size, 0, none⟩, rfl, rfl, Nat.zero_le _, Lib.hid ⟨HW0.out, (Below.refl _ _).alloc (Nat.le_refl _) _⟩⟩
  case round =>
    obtain ⟨i, c, A, rfl, rfl, hi, HQ⟩ := hrel
    by_cases hl : i < s.size
    · have i1 : (i : Int) < (s.size : Int) := by omega
      have hsn : ((s.data.toList.take (i + 1)).map lowB) = (s.data.toList.take i).map lowB ++ [lowB s[i]] := by rw [take_snoc s i hl, List.map_append]; rfl
      have HSN := Lib.hid hsn
      have HJ : Hid (i ≤ 1000000000) := by unfold Hid; omega
      have HBs : Hid (w.heap.size ≤ (wr.alloc (.cells #[.int .u8 ((lowB s[i]).toNat : Int)] 5)).heap.size) := by
        have := HQ.out.2.size
        unfold Hid
        simp
        omega
      have HR : Hid (Row (wr.alloc (.cells #[.int .u8 ((lowB s[i]).toNat : Int)] 5)) w.heap.size 5 (.slice (some A) i c) i (((s.data.toList.take i).map lowB).map vu)) := Lib.hid (HQ.out.1.alloc _)
      have HCN : Hid ((wr.alloc (.cells #[.int .u8 ((lowB s[i]).toNat : Int)] 5)).cell? ⟨wr.heap.size, 0, none⟩ = some (.int .u8 ((lowB s[i]).toNat : Int))) := by
        unfold Hid
        rw [World.cell?_alloc_new]
        rfl
      have HBW : Hid (Below w.heap.size w (wr.alloc (.cells #[.int .u8 ((lowB s[i]).toNat : Int)] 5))) := Lib.hid (below_then HQ.out.2 (Nat.le_refl _) ((Below.refl _ _).alloc (Nat.le_refl _) _))
      clear hsn
      have hln := lowB_nat s[i]
      by_cases hg : 65 ≤ s[i].toNat ∧ s[i].toNat ≤ 90
      · rw [if_pos hg] at hln
        have hw32 : IntKind.u8.wrap ((s[i].toNat : Int) + 32) = ((lowB s[i]).toNat : Int) := by
          rw [hln]
          have h1 : IntKind.u8.wrap ((s[i].toNat : Int) + 32) = ((s[i].toNat : Int) + 32) % 256 := rfl
          rw [h1]
          omega
        have j1 : (65 : Int) ≤ (s[i].toNat : Int) := by omega
        have j2 : (s[i].toNat : Int) ≤ 90 := by omega
        clear hln hg
        go_wp2_with (at_builtin; refine wpList_u8 rfl (.tmp 24) (.tmp 26) rfl rfl HR.out rfl HCN.out HJ.out HBs.out ?_; intro A' c' w5 ho hb; have HO5 := Lib.hid ho; have HB5 := Lib.hid hb; clear ho hb)
        go_roundw
        case rel =>
          refine ⟨i + 1, c', A', rfl, by go_num, by omega, Lib.hid ⟨?_, HBW.out.trans HB5.out⟩⟩
          rw [HSN.out]
          exact HO5.out
        case measure => simp [intOf]; omega
      · rw [if_neg hg] at hln
        have hsame : ((s[i].toNat : Int)) = ((lowB s[i]).toNat : Int) := by rw [hln]
        rw [← hsame] at HR HCN HBW HBs
        have hu : lowB s[i] = s[i] := UInt8.toNat_inj.1 hln
        rw [hu] at HSN
        clear hln hsame hu
        by_cases j1 : 65 ≤ s[i].toNat
        · have k1 : (65 : Int) ≤ (s[i].toNat : Int) := by omega
          have k2 : ¬ (s[i].toNat : Int) ≤ 90 := by omega
          clear hg j1
          go_wp2_with (at_builtin; refine wpList_u8 rfl (.tmp 24) (.tmp 26) rfl rfl HR.out rfl HCN.out HJ.out HBs.out ?_; intro A' c' w5 ho hb; have HO5 := Lib.hid ho; have HB5 := Lib.hid hb; clear ho hb)
          go_roundw
          case rel =>
            refine ⟨i + 1, c', A', rfl, by go_num, by omega, Lib.hid ⟨?_, HBW.out.trans HB5.out⟩⟩
            rw [HSN.out]
            exact HO5.out
          case measure => simp [intOf]; omega
        · have k1 : ¬ (65 : Int) ≤ (s[i].toNat : Int) := by omega
          clear hg j1
          go_wp2_with (at_builtin; refine wpList_u8 rfl (.tmp 24) (.tmp 26) rfl rfl HR.out rfl HCN.out HJ.out HBs.out ?_; intro A' c' w5 ho hb; have HO5 := Lib.hid ho; have HB5 := Lib.hid hb; clear ho hb)
          go_roundw
          case rel =>
            refine ⟨i + 1, c', A', rfl, by go_num, by omega, Lib.hid ⟨?_, HBW.out.trans HB5.out⟩⟩
            rw [HSN.out]
            exact HO5.out
          case measure => simp [intOf]; omega
    · obtain rfl : i = s.size := by omega
      rw [HFULL.out] at HQ
      have hcv := conv_row HQ.out.1
      have HB := Lib.hid HQ.out.2
      clear HQ
      go_wp2
      go_ret
      exact ⟨rfl, HB.out⟩
end Go.Proofs.YtlhaaokldjdnnaaGreatDoor
namespace Go.Proofs.YtlhaaokldjdnnaaGreatDoor
open Go.RowKit
set_option linter.unusedVariables false
set_option linter.unusedSimpArgs false
attribute [local go_sem] plus_cell

theorem lowT_size (s : ByteArray) : (lowT s).size = s.size := by
  rw [Lib.size_eq, Lib.size_eq s]
  simp [lowT]
theorem tags_same : Ev.tagNames = tagsL := by decide
theorem tag_fit {u T : ByteArray} {t : List UInt8} {N : Nat} (hT : T.data.toList = t) (hN : N = t.length + 1) (h1 : (lowT (u.extract 0 N)).data.toList = 60 :: (lowT T).data.toList) (hk : N < u.size) (h2 : u[N] = 32 ∨ u[N] = 62) : TagFit u.data.toList t := by
  subst hN hT
  refine ⟨?_, u[T.data.toList.length + 1], ?_, h2⟩
  · have e : (lowT (u.extract 0 (T.data.toList.length + 1))).data.toList = (u.extract 0 (T.data.toList.length + 1)).data.toList.map lowB := by simp [lowT]
    have e2 : (lowT T).data.toList = T.data.toList.map lowB := by simp [lowT]
    rw [← take_eq, ← e, h1, e2]
  · rw [List.getElem?_eq_getElem (by rw [← Lib.size_eq]; exact hk), byte_at u _ hk]
set_option maxRecDepth 100000 in
set_option maxHeartbeats 4000000 in
theorem rHtml_is (s : ByteArray) (hs : s.size ≤ 1000) (w : World) (hw : Ev.Told w) : Calls Tryz.prog 5 #[.string s] w fun e w' => (∃ b, e = .returned (.bool b) ∧ (b = true → HtmlL (skipL s.data.toList))) ∧ Below w.heap.size w w' := by
  have HSK := Lib.hid (rSkip_is s hs w)
  have HT := Lib.hid (Ev.Tags_is w hw)
  clear hw
  go_enter Tryz.func5, Tryz.ntmps5
  go_wp2_with (first
    | (go_at_call 12; refine HSK.out.mono ?_; rintro e _ ⟨⟨u, rfl, hu⟩, rfl⟩; have HU := Lib.hid hu; clear hu)
    | (go_at_call 13; refine HT.out.mono ?_; rintro e w1 ⟨⟨g, off, cap, rfl, hg, hc⟩, hb1⟩; have HC := Lib.hid hc; have HB1 := Lib.hid hb1; clear hc hb1 hg))
  have husz : u.size ≤ 1000 := by
    have h1 := pad_len s.data.toList
    rw [← HU.out] at h1
    have h2 := Lib.size_eq s
    have h3 := Lib.size_eq u
    omega
  obtain ⟨b, hb⟩ : ∃ b, (⟨#[60, 33, 45, 45]⟩ : ByteArray).data.toList.isPrefixOf u.data.toList = b := ⟨_, rfl⟩
  refine (rPrefix_is u ⟨#[60, 33, 45, 45]⟩ b hb husz (by decide) _).mono ?_
  rintro e _ ⟨rfl, rfl⟩
  have HP := Lib.hid hb
  clear hb
  cases b
  case true =>
    go_wp2
    go_ret
    exact ⟨⟨true, rfl, fun _ => .inl (by rw [← HU.out]; exact HP.out)⟩, HB1.out⟩
  case false =>
    have hlen : Ev.tagNames.length = 16 := rfl
    rw [hlen]
    go_wp2
    go_loopw [4] (fun i wr => ∃ k : Nat, i = .int .i64 k ∧ k ≤ 16 ∧ Hid (Below w1.heap.size w1 wr)) (fun i _ => 16 - (intOf i).toNat)
    case atStart => exact ⟨0, rfl, by omega, Lib.hid (Below.refl _ _)⟩
    case round =>
      obtain ⟨k, rfl, hk, HBW⟩ := hrel
      by_cases hlt : k < 16
      · have i1 : (k : Int) < 16 := by omega
        obtain ⟨t, ht⟩ : ∃ t, Ev.tagNames[k]? = some t := ⟨Ev.tagNames[k]'(by rw [hlen]; exact hlt), List.getElem?_eq_getElem _⟩
        have htm : t ∈ tagsL := by rw [← tags_same]; exact List.mem_of_getElem? ht
        have h20 := (tags_great t htm).2.1
        have hcell0 := HC.out k t ht
        obtain ⟨T, hT⟩ : ∃ T : ByteArray, ⟨t.toArray⟩ = T := ⟨_, rfl⟩
        rw [hT] at hcell0
        have hTd : T.data.toList = t := by rw [← hT]
        have hTs : T.size = t.length := by rw [Lib.size_eq, hTd]
        have hcell : wr.cell? ⟨g, off + k, none⟩ = some (.string T) := (World.cell?_of_block (HBW.out.block g (lt_of_cell hcell0))).trans hcell0
        obtain ⟨N, hN⟩ : ∃ N, N = t.length + 1 := ⟨_, rfl⟩
        have hwr : IntKind.i64.wrap ((T.size : Int) + 1) = (N : Int) := by rw [IntKind.wrap_i64]; omega
        have HTd := Lib.hid hTd
        have HN := Lib.hid hN
        have HTM := Lib.hid htm
        have hT1 : T.size ≤ 1000 := by omega
        clear ht htm hcell0 hT hTd hlen HP hTs hN h20
        by_cases hn : N < u.size
        · have i2 : (N : Int) < (u.size : Int) := by omega
          have i3 : (N : Int) ≤ (u.size : Int) := by omega
          have hx1 : (u.extract 0 N).size ≤ 1000 := by simp; omega
          have HL1 : Hid (∀ X, Calls Tryz.prog 15 #[.string (u.extract 0 N)] (plus wr X) fun e w' => e = .returned (.string (lowT (u.extract 0 N))) ∧ Below (plus wr X).heap.size (plus wr X) w') := Lib.hid fun X => lower_is _ hx1 _
          have HL2 : Hid (∀ X, Calls Tryz.prog 15 #[.string T] (plus wr X) fun e w' => e = .returned (.string (lowT T)) ∧ Below (plus wr X).heap.size (plus wr X) w') := Lib.hid fun X => lower_is _ hT1 _
          have e1 := u8_eq u[N] 32
          have e2 := u8_eq u[N] 62
          have e1' : ((u[N].toNat : Int) == 32) = (u[N] == 32) := e1
          have e2' : ((u[N].toNat : Int) == 62) = (u[N] == 62) := e2
          clear e1 e2 hx1
          generalize hR1 : lowT (u.extract 0 N) = R1 at HL1
          generalize hR2 : lowT T = R2 at HL2
          have HR1 := Lib.hid hR1
          have HR2 := Lib.hid hR2
          have hR2s : R2.size ≤ 1000 := by rw [← hR2, lowT_size]; omega
          have hso1 : ¬ (9223372036854775807 < 1 + R2.size) := by omega
          have hso2 : ¬ (9223372036854775807 < ({ data := #[60] } : ByteArray).size + R2.size) := by
            have : (⟨#[60]⟩ : ByteArray).size = 1 := rfl
            omega
          clear hR2s
          clear hR1 hR2
          cases hE : (R1.toList == (({ data := #[60] } : ByteArray) ++ R2).toList)
          · go_wp2_with fail
            refine wp_region_plus (by kernel_rfl) (by kernel_rfl) ?_
            repeat (first | go_big_quiet_skip | (go_big_quiet_want; go_big_quiet_op; first | go_big_quiet_on | (apply Exists.intro; refine ⟨fun _ => ?_, ?_⟩; (focus (first | (go_at_call 15; with_reducible exact plus_call (HL1.out _)) | (go_at_call 15; with_reducible exact plus_call (HL2.out _)))); go_big_quiet_on)))
            refine wpQuiet_nil ?_
            rintro _ ⟨X, rfl⟩
            go_wp2
            go_roundw
            case rel => exact ⟨k + 1, by go_num, by omega, Lib.hid (below_then HBW.out (Nat.le_refl _) (plus_below wr X))⟩
            case measure => simp [intOf]; omega
          · cases hz1 : (u[N] == 32)
            · rw [hz1] at e1'
              cases hz2 : (u[N] == 62)
              · rw [hz2] at e2'
                clear hz1 hz2
                go_wp2_with fail
                refine wp_region_plus (by kernel_rfl) (by kernel_rfl) ?_
                repeat (first | go_big_quiet_skip | (go_big_quiet_want; go_big_quiet_op; first | go_big_quiet_on | (apply Exists.intro; refine ⟨fun _ => ?_, ?_⟩; (focus (first | (go_at_call 15; with_reducible exact plus_call (HL1.out _)) | (go_at_call 15; with_reducible exact plus_call (HL2.out _)))); go_big_quiet_on)))
                refine wpQuiet_nil ?_
                rintro _ ⟨X, rfl⟩
                go_wp2
                go_roundw
                case rel => exact ⟨k + 1, by go_num, by omega, Lib.hid (below_then HBW.out (Nat.le_refl _) (plus_below wr X))⟩
                case measure => simp [intOf]; omega
              · rw [hz2] at e2'
                have HZ : Hid (u[N] = 32 ∨ u[N] = 62) := Lib.hid (.inr (by simpa using hz2))
                have HEE := Lib.hid hE
                clear hz1 hz2
                go_wp2_with fail
                refine wp_region_plus (by kernel_rfl) (by kernel_rfl) ?_
                repeat (first | go_big_quiet_skip | (go_big_quiet_want; go_big_quiet_op; first | go_big_quiet_on | (apply Exists.intro; refine ⟨fun _ => ?_, ?_⟩; (focus (first | (go_at_call 15; with_reducible exact plus_call (HL1.out _)) | (go_at_call 15; with_reducible exact plus_call (HL2.out _)))); go_big_quiet_on)))
                refine wpQuiet_nil ?_
                rintro _ ⟨X, rfl⟩
                go_wp2
                go_ret
                refine ⟨⟨true, rfl, fun _ => .inr ⟨t, HTM.out, ?_⟩⟩, below_then (below_then HB1.out (Nat.le_refl _) HBW.out) (Nat.le_refl _) (plus_below wr X)⟩
                rw [← HU.out]
                refine tag_fit HTd.out HN.out ?_ hn HZ.out
                have h := eq_of_beq HEE.out
                rw [Lib.toList_data, Lib.toList_data] at h
                rw [HR1.out, HR2.out, h]
                simp
            · rw [hz1] at e1'
              have HZ : Hid (u[N] = 32 ∨ u[N] = 62) := Lib.hid (.inl (by simpa using hz1))
              have HEE := Lib.hid hE
              clear hz1
              go_wp2_with fail
              refine wp_region_plus (by kernel_rfl) (by kernel_rfl) ?_
              repeat (first | go_big_quiet_skip | (go_big_quiet_want; go_big_quiet_op; first | go_big_quiet_on | (apply Exists.intro; refine ⟨fun _ => ?_, ?_⟩; (focus (first | (go_at_call 15; with_reducible exact plus_call (HL1.out _)) | (go_at_call 15; with_reducible exact plus_call (HL2.out _)))); go_big_quiet_on)))
              refine wpQuiet_nil ?_
              rintro _ ⟨X, rfl⟩
              go_wp2
              go_ret
              refine ⟨⟨true, rfl, fun _ => .inr ⟨t, HTM.out, ?_⟩⟩, below_then (below_then HB1.out (Nat.le_refl _) HBW.out) (Nat.le_refl _) (plus_below wr X)⟩
              rw [← HU.out]
              refine tag_fit HTd.out HN.out ?_ hn HZ.out
              have h := eq_of_beq HEE.out
              rw [Lib.toList_data, Lib.toList_data] at h
              rw [HR1.out, HR2.out, h]
              simp
        · have i2 : decide (N < u.size) = false := decide_eq_false hn
          go_wp2_with fail
          go_quiet (fail)
          go_wp2
          go_roundw
          case rel => exact ⟨k + 1, by go_num, by omega, Lib.hid (below_drewN HBW.out _)⟩
          case measure => simp [intOf]; omega
      · obtain rfl : k = 16 := by omega
        go_wp2
        go_ret
        exact ⟨⟨false, rfl, fun h => by cases h⟩, below_then HB1.out (Nat.le_refl _) HBW.out⟩
end Go.Proofs.YtlhaaokldjdnnaaGreatDoor
