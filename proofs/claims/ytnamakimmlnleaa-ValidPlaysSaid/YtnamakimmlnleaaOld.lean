/-
  The set of keys: the one that came first. No condition but that the set is one and not empty.
-/
import Derived.Test.YtnamakimmlnleaaSet
namespace Go.Proofs.Ytnamakimmlnleaa
open Go.RowKit Go.ChangeMaps
set_option linter.unusedVariables false

/-- THE STEP of a range over the keys. -/
theorem wpList_next_kept {w : World} {ops : Array Oper} {rest : List Oper} {o : Oper} {a : Act} {Q : Exit → Act → World → Prop} (hg : o.guard = none) (it : Operand) (hop : o.op = Op.next it false)
    (b r n : Nat) (D : DataW Nat) (left : Lit → Bool) (cnt : Nat) (L : List (ByteArray × Nat)) (next : Nat)
    (hit : a.eval it = .pointer (some ⟨r, 0, none⟩)) (h : w.ranges Try.prog 9 (plainElem Try.prog 3) b r n D left cnt) (hK : Kept D L next) (hsub : ∀ kl, left kl = true → Maps.has D kl = true)
    (hDone : cnt = 0 → (∀ kl, left kl = false) → wpList Try.prog ops Q rest (a.put o.dst (.tuple #[.bool false])) w)
    (hMore : ∀ (q : ByteArray × Nat) (w' : World) (cnt' : Nat), q ∈ L → left (klit q.1) = true → w'.ranges Try.prog 9 (plainElem Try.prog 3) b r n D (fun z => left z && !z.sameKey (klit q.1)) cnt' → cnt' < cnt →
      w.grownBy w' (some r) → w'.heap.size = w.heap.size → (Instr.entry (.pointer (some ⟨r, 0, none⟩))).run Try.prog w' = .ok (.tuple #[.string q.1, .int .i64 q.2]) w' →
      wpList Try.prog ops Q rest (a.put o.dst (.tuple #[.bool true, .string q.1, .int .i64 q.2])) w') :
    wpList Try.prog ops Q (o :: rest) a w := by
  refine wpList_next_ranges w hg it hop 9 law9 (plainElem Try.prog 3) Value.string (Value.int .i64) (fun key kl hk => Maps.keyOf_string_inv Try.underlying9 hk) (fun v y hv => by obtain ⟨c, rfl, _⟩ := plainElem_int_inv Try.underlying3 hv; exact ⟨c, rfl⟩)
    b r n D left cnt hit h hDone (fun x c kl y w' cnt' hkey hlk hv hat hrg hlt hgr hsz hen => ?_)
  obtain ⟨s, hs, rfl, _⟩ := WideMaps.string_of_keyOf Try.underlying9 hkey
  obtain rfl : x = s := by injection hs
  obtain ⟨c', hc', rfl, _⟩ := plainElem_int_inv Try.underlying3 hv
  obtain rfl : c = c' := by injection hc'
  have hh := hsub _ hlk
  have hh' : Maps.has D (klit x) = true := hh
  rw [hK.has] at hh'
  obtain ⟨q, hq, he⟩ := List.any_eq_true.1 hh'
  obtain rfl : q.1 = x := of_decide_eq_true he
  have e1 := hat (.lit (.int .i64 0))
  have e2 := hK.at_ hq (.lit (.int .i64 0))
  unfold klit at e2
  rw [e2] at e1
  obtain rfl : ((q.2 : Nat) : Int) = c := by
    injection e1 with e1
    injection e1
  exact hMore q w' cnt' hq hlk hrg hlt hgr hsz hen

/-- Which of the keys that have come is the first one. -/
def Fore (L : List (ByteArray × Nat)) (left : Lit → Bool) (key : ByteArray) (n : Int) : Prop :=
  (n = -1 ∧ ∀ q ∈ L, left (klit q.1) = true) ∨ (∃ q ∈ L, key = q.1 ∧ n = q.2 ∧ ∀ r ∈ L, left (klit r.1) = false → q.2 ≤ r.2)
theorem fore_step {L : List (ByteArray × Nat)} {left : Lit → Bool} {key : ByteArray} {n : Int} (h : Fore L left key n) (one : ∀ {p q : ByteArray × Nat}, p ∈ L → q ∈ L → p.1 = q.1 → p = q) {q : ByteArray × Nat} (hq : q ∈ L) (hn : n < 0 ∨ (q.2 : Int) < n) :
    Fore L (fun z => left z && !z.sameKey (klit q.1)) q.1 q.2 := by
  refine .inr ⟨q, hq, rfl, rfl, fun r hr hl => ?_⟩
  simp only [same_klit, Bool.and_eq_false_iff, Bool.not_eq_false', decide_eq_true_eq] at hl
  rcases hl with hl | hl
  · rcases h with ⟨rfl, h⟩ | ⟨p, hp, rfl, rfl, h⟩
    · rw [h r hr] at hl
      cases hl
    · have := h r hr hl
      omega
  · rw [one hr hq hl]
    exact Nat.le_refl _
theorem fore_stay {L : List (ByteArray × Nat)} {left : Lit → Bool} {key : ByteArray} {n : Int} (h : Fore L left key n) (one : ∀ {p q : ByteArray × Nat}, p ∈ L → q ∈ L → p.1 = q.1 → p = q) {q : ByteArray × Nat} (hq : q ∈ L) (h0 : ¬ n < 0) (hn : ¬ (q.2 : Int) < n) :
    Fore L (fun z => left z && !z.sameKey (klit q.1)) key n := by
  rcases h with ⟨rfl, h⟩ | ⟨p, hp, rfl, rfl, h⟩
  · omega
  · refine .inr ⟨p, hp, rfl, rfl, fun r hr hl => ?_⟩
    simp only [same_klit, Bool.and_eq_false_iff, Bool.not_eq_false', decide_eq_true_eq] at hl
    rcases hl with hl | hl
    · exact h r hr hl
    · rw [one hr hq hl]
      omega
theorem fore_end {p : ByteArray × Nat} {t : List (ByteArray × Nat)} {left : Lit → Bool} {key : ByteArray} {n : Int} {D : DataW Nat} {next : Nat} (h : Fore (p :: t) left key n) (hK : Kept D (p :: t) next) (hl : ∀ kl, left kl = false) : key = p.1 := by
  rcases h with ⟨rfl, h⟩ | ⟨q, hq, rfl, rfl, h⟩
  · have := h p (List.mem_cons_self ..)
    rw [hl] at this
    cases this
  · have h1 := h p (List.mem_cons_self ..) (hl _)
    have h2 := hK.least hq
    rw [hK.same hq (List.mem_cons_self ..) (by omega)]
theorem Kept.single {D : DataW Nat} {L : List (ByteArray × Nat)} {next : Nat} (hK : Kept D L next) {p q : ByteArray × Nat} (hp : p ∈ L) (hq : q ∈ L) (e : p.1 = q.1) : p = q := by
  by_cases h : p = q
  · exact h
  · exact absurd e (Kept.at_.pairwise_ne hK.one hp hq h)

set_option maxHeartbeats 1000000 in
theorem oldest_any {w : World} {B g : Nat} {p : ByteArray × Nat} {t : List (ByteArray × Nat)} {next most gone : Nat} (h : Sett w B g (p :: t) next most gone) :
    Calls Try.prog 22 #[.pointer (some ⟨g, 0, none⟩)] w fun e w' => e = .returned (.string p.1) ∧ Below w.heap.size w w' := by
  obtain ⟨h1, h2, h3, h4, h5, mb, D, hm, hg, ho, hK⟩ := h
  have c0 : w.cell? ⟨g, 0, none⟩ = some (.map (some mb)) := cell_of_row w g 0 _ _ _ hg
  have HK := Lib.hid hK
  have HO := Lib.hid ho
  have hlt := ho.lt
  clear hg hK ho h1 h3 h4 h5 hm
  go_enter Try.func22, Try.ntmps22
  go_wp2_with (first
    | (at_range; refine wpList_range_own _ rfl _ 45 rfl 9 3 law9 Try.underlying45 _ mb next _ rfl HO.out ?_; intro w0 hrg0 hg0 hs0)
    | go_in)
  go_frame
  go_loopw [3, 4] (fun kv nv wr => ∃ (key : ByteArray) (n : Int) (left : Lit → Bool) (cnt : Nat), kv = .string key ∧ nv = .int .i64 n ∧ -1 ≤ n ∧ n ≤ 1000000 ∧ Hid (wr.ranges Try.prog 9 (plainElem Try.prog 3) mb w.heap.size next D left cnt) ∧
      Hid (∀ kl, left kl = true → Maps.has D kl = true) ∧ Hid (Fore (p :: t) left key n) ∧ Hid (Below w.heap.size w wr)) (fun _ _ wr => wr.rangeLeft mb w.heap.size)
  case atStart =>
    refine ⟨_, _, _, _, rfl, rfl, by omega, by omega, Lib.hid hrg0, Lib.hid fun _ h => h, Lib.hid (.inl ⟨rfl, fun q hq => ?_⟩), Lib.hid ((Below.refl _ _).grown hg0 (Nat.le_refl _) (fun j hj => by cases hj))⟩
    rw [HK.out.has]
    exact List.any_eq_true.2 ⟨q, hq, decide_eq_true rfl⟩
  case round =>
    obtain ⟨key, n, left, cnt, rfl, rfl, hn1, hn2, HR, HS, HF, HB⟩ := hrel
    go_wp2_with (first
      | (at_next; refine wpList_next_kept rfl _ rfl mb w.heap.size next _ _ _ (p :: t) next rfl HR.out HK.out HS.out ?_ ?_)
      | go_in)
    · intro hc0 hl0
      have HL := Lib.hid hl0
      clear hc0 hl0
      go_wp2
      go_ret
      exact ⟨by rw [fore_end HF.out HK.out HL.out]; rfl, HB.out⟩
    · intro qk qn w1 cnt1 hq hlq hrg1 hlt1 hg1 hs1 hen
      have hq : (qk, qn) ∈ p :: t := List.mem_cons.2 hq
      have HQ := Lib.hid hq
      have HR1 := Lib.hid hrg1
      have HLT := Lib.hid hlt1
      have HB1 := Lib.hid (HB.out.grown hg1 HB.out.size (fun j hj => by cases hj; exact Nat.le_refl _))
      have hq9 : qn < 1000000 := Nat.lt_of_lt_of_le (HK.out.lt (qk, qn) hq) h2
      clear hq hrg1 hlt1 hg1 hlq
      by_cases hn : n < 0
      · go_wp2
        go_roundw
        case rel => exact ⟨_, _, _, _, rfl, rfl, by omega, by omega, HR1, Lib.hid fun kl hk => HS.out kl (by simp at hk; exact hk.1), Lib.hid (fore_step (q := (qk, qn)) HF.out HK.out.single HQ.out (.inl hn)), HB1⟩
        case measure => rw [HR1.out.left_eq, HR.out.left_eq]; exact HLT.out
      · by_cases hm : (qn : Int) < n
        · go_wp2
          go_roundw
          case rel => exact ⟨_, _, _, _, rfl, rfl, by omega, by omega, HR1, Lib.hid fun kl hk => HS.out kl (by simp at hk; exact hk.1), Lib.hid (fore_step (q := (qk, qn)) HF.out HK.out.single HQ.out (.inr hm)), HB1⟩
          case measure => rw [HR1.out.left_eq, HR.out.left_eq]; exact HLT.out
        · go_wp2
          go_roundw
          case rel => exact ⟨_, _, _, _, rfl, rfl, by omega, by omega, HR1, Lib.hid fun kl hk => HS.out kl (by simp at hk; exact hk.1), Lib.hid (fore_stay (q := (qk, qn)) HF.out HK.out.single HQ.out hn hm), HB1⟩
          case measure => rw [HR1.out.left_eq, HR.out.left_eq]; exact HLT.out

end Go.Proofs.Ytnamakimmlnleaa
