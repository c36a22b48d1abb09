/-
  A region that draws its order, whose first n operations leave the world alone, and whose other operations all wait for number n, but for one, number p, that leaves the world alone too: the first n may be taken in the order in which they stand; the others are then gone through in whatever order. No condition; nothing of the program stands here.
-/
import Derived.Test.YtlalbfpdelfnfaaHead
namespace Go.Proofs.Ytlalbfpdelfnfaa
open Go.RowKit
set_option linter.unusedVariables false

section
variable {P : Program} {ops : Array Oper} {md : Region.Mode} {w : World}
/-- Each operation behind number n, but for number p, waits for it, or for one that does. -/
def starP (md : Region.Mode) (ops : Array Oper) (n p : Nat) : Bool := (List.range ops.size).all fun t => decide (t ≤ n) || decide (t = p) || (List.range t).any fun j => decide (n ≤ j) && !decide (j = p) && Region.waitsFor md ops t j
/-- What has been listed is closed. -/
structure Closed (md : Region.Mode) (ops : Array Oper) (n : Nat) (listed : Array Bool) : Prop where
  size : listed.size = ops.size
  closed : ∀ j oj, ops[j]? = some oj → listed.getD j false = true → ∀ e ∈ oj.after, Region.binds md e = true → listed.getD e.on false = true
  num : listed.getD n true = false
theorem Closed.of {n : Nat} {listed : Array Bool} (h : HeadInv md ops n listed) (hn : n < ops.size) : Closed md ops n listed := ⟨h.size, h.closed, h.tail n (Nat.le_refl _) hn⟩
theorem Closed.set {n i : Nat} {listed : Array Bool} (h : Closed md ops n listed) (hi : i ∈ Region.ready md ops listed) (hne : i ≠ n) : Closed md ops n (listed.setIfInBounds i true) := by
  obtain ⟨_, oi, hoi, hall⟩ := mem_ready.1 hi
  refine ⟨by simp [h.size], fun j oj hj hl e he hb => ?_, by rw [getD_set_ne true hne]; exact h.num⟩
  by_cases hij : i = j
  · subst hij
    cases Option.some.inj (hj.symm.trans hoi)
    exact getD_set_true (hall e he hb)
  · rw [getD_set_ne false hij] at hl
    exact getD_set_true (h.closed j oj hj hl e he hb)
theorem starP_spec {n p t : Nat} (hc : starP md ops n p = true) (ht : n < t) (hlt : t < ops.size) (htp : t ≠ p) : ∃ j, n ≤ j ∧ j < t ∧ j ≠ p ∧ Region.waitsFor md ops t j = true := by
  have h1 := List.all_eq_true.1 hc t (List.mem_range.2 hlt)
  simp only [Bool.or_eq_true, decide_eq_true_eq] at h1
  rcases h1 with (h3 | h3) | h3
  · omega
  · exact absurd h3 htp
  · obtain ⟨j, hj, h4⟩ := List.any_eq_true.1 h3
    simp only [Bool.and_eq_true, decide_eq_true_eq, Bool.not_eq_true', decide_eq_false_iff_not] at h4
    exact ⟨j, h4.1.1, List.mem_range.1 hj, h4.1.2, h4.2⟩
theorem Closed.tail {n p : Nat} {listed : Array Bool} (hc : starP md ops n p = true) (inv : Closed md ops n listed) : ∀ t, n ≤ t → t < ops.size → t ≠ p → listed.getD t false = false := by
  intro t
  induction t using Nat.strongRecOn with
  | _ t ih =>
    intro ht hlt htp
    by_cases htn : t = n
    · subst htn
      exact getD_both inv.num
    · obtain ⟨j, hj1, hj2, hj3, hw⟩ := starP_spec hc (by omega) hlt htp
      cases hl : listed.getD t false with
      | false => rfl
      | true =>
        obtain ⟨oj, hoj, e, he, hb, hon⟩ := Region.waitsFor_spec hw
        have h2 := inv.closed t oj hoj hl e he hb
        rw [hon, ih j hj2 hj1 (by omega) hj3] at h2
        cases h2
theorem starP_waits {n p : Nat} {listed : Array Bool} (hs : Region.sinkB md ops n = true) (hc : starP md ops n p = true) (hn : n < ops.size) (inv : Closed md ops n listed) {t : Nat} (ht : n ≤ t) (htp : t ≠ p) :
    ∀ d i : Nat, n - i ≤ d → i < n → listed.getD i true = false → t ∉ Region.ready md ops listed
  | 0, i, hd, hi, _, _ => by omega
  | d + 1, i, hd, hi, hun, hr => by
    obtain ⟨_, ot, hot, hall⟩ := mem_ready.1 hr
    have hlt : t < ops.size := (Array.getElem?_eq_some_iff.1 hot).1
    have free : ∀ j, Region.waitsFor md ops t j = true → listed.getD j false = true := fun j hj => by
      obtain ⟨o', ho', e, he, hb, hon⟩ := Region.waitsFor_spec hj
      cases Option.some.inj (ho'.symm.trans hot)
      rw [← hon]
      exact hall e he hb
    rcases Nat.lt_or_ge n t with h | h
    · obtain ⟨j, hj1, hj2, hj3, hw⟩ := starP_spec hc h hlt htp
      have h3 := free j hw
      rw [inv.tail hc j hj1 (by omega) hj3] at h3
      cases h3
    · obtain rfl : t = n := by omega
      obtain ⟨j, hj, hj2⟩ := List.any_eq_true.1 (List.all_eq_true.1 hs i (List.mem_range.2 hi))
      rw [Bool.and_eq_true] at hj2
      have hij := of_decide_eq_true hj2.1
      have hjt := List.mem_range.1 hj
      rcases Nat.lt_or_ge j t with hlt2 | hge
      · cases hl : listed.getD j false with
        | true =>
          obtain ⟨oj, hoj, e, he, hb, hon⟩ := Region.waitsFor_spec hj2.2
          have h2 := inv.closed j oj hoj hl e he hb
          rw [hon, getD_both hun] at h2
          cases h2
        | false => exact starP_waits hs hc hn inv ht htp d j (by omega) hlt2 (getD_in (by rw [inv.size]; omega) hl) hr
      · obtain rfl : j = t := by omega
        have h2 := free i hj2.2
        rw [getD_both hun] at h2
        cases h2

/-- Whatever order is picked while the first n are not all listed, number p being left out. -/
def wpHead (P : Program) (md : Region.Mode) (ops : Array Oper) (w : World) (n p : Nat) (L : Array Bool → Act → Prop) : Nat → Array Bool → Act → Prop
  | 0, listed, a => L listed a
  | f + 1, listed, a => (∃ i, i ∈ Region.ready md ops listed ∧ i ≠ p) ∧ ∀ i ∈ Region.ready md ops listed, i ≠ p → i < n ∧ stOp P ops w i (wpHead P md ops w n p L f (listed.setIfInBounds i true)) a

theorem wpHead_first {n p i : Nat} {oi : Oper} {v : Value} {L : Array Bool → Act → Prop} (hi : ops[i]? = some oi) (hsel : ∀ (j : Nat) (o : Oper) cs b, ops[j]? = some o → o.op ≠ .select cs b)
    (hs : Region.sinkB md ops n = true) (hc : starP md ops n p = true) (hn : n < ops.size) (hp : n < p) (hin : i < n) (hdone : ∀ listed a, L listed a → ∀ j ∈ Region.ready md ops listed, n ≤ j) :
    ∀ (f : Nat) (listed : Array Bool) (a : Act), HeadInv md ops n listed →
      (∀ j oj, ops[j]? = some oj → j ≠ i → listed.getD j true = false → (∀ e ∈ oj.after, Region.binds md e = true → e.on ≠ i) → oi.apart ops oj = true) →
      i ∈ Region.ready md ops listed → YieldsAt P ops w oi v a → wpHead P md ops w n p L f (listed.setIfInBounds i true) (a.put oi.dst v) → wpHead P md ops w n p L (f + 1) listed a := by
  intro f
  induction f with
  | zero =>
    intro listed a inv _ hr hy H
    have hun := (mem_ready.1 hr).1
    refine ⟨⟨i, hr, by omega⟩, fun j hj hjp => ?_⟩
    by_cases hji : j = i
    · subst hji
      exact ⟨hin, hy.stOp hi H⟩
    · have h1 := hdone _ _ H j (ready_mono hj hji)
      exact absurd hj (starP_waits hs hc hn (.of inv hn) h1 hjp n i (by omega) hin hun)
  | succ f ih =>
    intro listed a inv hfree hr hy H
    have hun := (mem_ready.1 hr).1
    refine ⟨⟨i, hr, by omega⟩, fun j hj hjp => ?_⟩
    have hjn : j < n := Nat.lt_of_not_le fun h => starP_waits hs hc hn (.of inv hn) h hjp n i (by omega) hin hun hj
    refine ⟨hjn, ?_⟩
    by_cases hji : j = i
    · subst hji
      exact hy.stOp hi H
    obtain ⟨hjun, oj, hoj, hall⟩ := mem_ready.1 hj
    have hnot : ∀ e ∈ oj.after, Region.binds md e = true → e.on ≠ i := fun e he hb heq => by
      have h1 := hall e he hb
      rw [heq, getD_both hun] at h1
      cases h1
    have h2 := stOp_put hoj (hfree j oj hoj hji hjun hnot) (fun cs b => hsel i oi cs b hi) (fun cs b => hsel j oj cs b hoj) hy ((H.2 j (ready_mono hj hji) hjp).2)
    refine stOp_mono (fun a' h3 => ih _ a' (inv.set hj hjn) (fun k ok hk hki hku hno => hfree k ok hk hki ?_ hno) (ready_mono hr (Ne.symm hji)) h3.1 ?_) h2
    · by_cases hjk : j = k
      · subst hjk
        exact hjun
      · rwa [getD_set_ne true hjk] at hku
    · rw [Array.setIfInBounds_comm _ _ hji]
      exact h3.2

theorem wpHead_lex {n p : Nat} {Lq : Act → Prop} {fin : Array Bool} (hsel : Region.noSelect ops = true) (hs : Region.sinkB md ops n = true) (hc : starP md ops n p = true) (hn : n < ops.size) (hp : n < p) (hfin : ∀ j ∈ Region.ready md ops fin, n ≤ j) :
    ∀ (l : List Oper) (k : Nat) (listed : Array Bool) (a : Act), (∀ j, j < l.length → l[j]? = ops[k + j]?) → k + l.length = n → HeadInv md ops n listed →
    headB md ops l.length k listed = true → listUpto l.length k listed = fin → wpStill P ops w Lq l a → wpHead P md ops w n p (fun listed' a' => listed' = fin ∧ Lq a') l.length listed a
  | [], k, listed, a, _, _, _, _, hf, h => ⟨hf, h⟩
  | o :: l, k, listed, a, hl, hk, inv, hB, hf, h => by
    have h0 : ops[k]? = some o := by simpa using (hl 0 (by simp)).symm
    simp only [List.length_cons, headB, Bool.and_eq_true] at hB
    obtain ⟨⟨hr, hfr⟩, hB'⟩ := hB
    have hkn : k < n := by simp only [List.length_cons] at hk; omega
    have hr' : k ∈ Region.ready md ops listed := by simpa using hr
    obtain ⟨v, hy, hK⟩ := yieldsAt_of_stOp h0 (show stOp P ops w k (wpStill P ops w Lq l) a by unfold stOp; simp only [h0]; exact h)
    exact wpHead_first h0 (Region.noSelect_spec hsel) hs hc hn hp hkn (fun listed' a' hL => by rw [hL.1]; exact hfin) l.length listed a inv (Region.free_spec h0 hfr) hr' hy
      (wpHead_lex hsel hs hc hn hp hfin l (k + 1) _ _ (fun j hj => by have := hl (j + 1) (by simp; omega); simpa [Nat.add_assoc, Nat.add_comm 1 j] using this) (by simp only [List.length_cons] at hk; omega) (inv.set hr' hkn) hB' hf hK)

/-- Number p and the first n touch nothing of each other. -/
def asideB (md : Region.Mode) (ops : Array Oper) (n p : Nat) (op : Oper) : Bool := (List.range n).all fun i => !Region.waitsFor md ops i p && (match ops[i]? with | some oi => op.apart ops oi && oi.apart ops op | none => true)
theorem aside_spec {n p i : Nat} {op oi : Oper} (h : asideB md ops n p op = true) (hi : i < n) (ho : ops[i]? = some oi) : (∀ e ∈ oi.after, Region.binds md e = true → e.on ≠ p) ∧ op.apart ops oi = true ∧ oi.apart ops op = true := by
  have h1 := List.all_eq_true.1 h i (List.mem_range.2 hi)
  simp only [ho, Bool.and_eq_true, Bool.not_eq_true'] at h1
  refine ⟨fun e he hb heq => ?_, h1.2.1, h1.2.2⟩
  have h2 : Region.waitsFor md ops i p = true := by
    unfold Region.waitsFor
    simp only [ho]
    exact Array.any_eq_true'.2 ⟨e, he, by simp [hb, heq]⟩
  rw [h1.1] at h2
  cases h2

theorem Yields.put {op oi : Oper} {v : Value} {a : Act} (u : Value) (hsp : ∀ cs b, op.op ≠ .select cs b) (hap : oi.apart ops op = true) (h : Yields P ops op v a) : Yields P ops op v (a.put oi.dst u) := by
  obtain ⟨h1, _, _⟩ := Oper.apart_spec hap
  unfold Yields at *
  rw [execOp_put op hsp a oi.dst u h1, wanted_put op a oi.dst u h1]
  exact h
theorem YieldsAt.put {op oi : Oper} {v : Value} {a : Act} (u : Value) (hsi : ∀ cs b, oi.op ≠ .select cs b) (hap : op.apart ops oi = true) (h : YieldsAt P ops w oi v a) : YieldsAt P ops w oi v (a.put op.dst u) := by
  obtain ⟨h1, _, _⟩ := Oper.apart_spec hap
  exact h.of_same (execOp_put oi hsi a op.dst u h1) (wanted_put oi a op.dst u h1)
theorem wpAny_of_wpHead {n p g : Nat} {op : Oper} {v : Value} {Lq : Act → Prop} {fin : Array Bool} {Q' : Exit → Act → World → Prop} (hop : ops[p]? = some op) (hsel : ∀ (j : Nat) (o : Oper) cs b, ops[j]? = some o → o.op ≠ .select cs b)
    (hQ : ∀ c a w, Q' (.panic c) (a.put op.dst v) w → Q' (.panic c) a w) (hs : Region.sinkB md ops n = true) (hc : starP md ops n p = true) (hn : n < ops.size) (hp : n < p) (has : asideB md ops n p op = true)
    (hff : Region.free md ops fin p = true) (hfr : p ∈ Region.ready md ops fin) (hL : ∀ a, Lq a → wpAny P md ops Q' g (fin.setIfInBounds p true) (a.put op.dst v) w) :
    ∀ (f : Nat) (listed : Array Bool) (a : Act), HeadInv md ops n listed → Yields P ops op v a → wpHead P md ops w n p (fun listed' a' => listed' = fin ∧ Lq a') f listed a →
      wpAny P md ops Q' (f + (g + 1)) listed a w ∧ (p ∈ Region.ready md ops listed → wpAny P md ops Q' (f + g) (listed.setIfInBounds p true) (a.put op.dst v) w)
  | 0, listed, a, inv, hy, h => by
    obtain ⟨rfl, h⟩ := h
    have h1 := hL a h
    rw [Nat.zero_add, Nat.zero_add]
    exact ⟨wpAny_first hop hsel hQ g listed a w (Region.free_spec hop hff) hfr hy h1, fun _ => h1⟩
  | f + 1, listed, a, inv, hy, h => by
    obtain ⟨⟨i0, hi0, hi0p⟩, hall⟩ := h
    have step : ∀ i, i ∈ Region.ready md ops listed → i ≠ p → ∃ oi vi, ops[i]? = some oi ∧ i < n ∧ YieldsAt P ops w oi vi a ∧
        (wpAny P md ops Q' (f + (g + 1)) (listed.setIfInBounds i true) (a.put oi.dst vi) w ∧ (p ∈ Region.ready md ops (listed.setIfInBounds i true) → wpAny P md ops Q' (f + g) ((listed.setIfInBounds i true).setIfInBounds p true) ((a.put oi.dst vi).put op.dst v) w)) := by
      intro i hi hip
      obtain ⟨hin, hst⟩ := hall i hi hip
      obtain ⟨_, oi, hoi, _⟩ := mem_ready.1 hi
      obtain ⟨vi, hyi, hk⟩ := yieldsAt_of_stOp hoi hst
      exact ⟨oi, vi, hoi, hin, hyi, wpAny_of_wpHead hop hsel hQ hs hc hn hp has hff hfr hL f _ _ (inv.set hi hin) (Yields.put vi (fun cs b => hsel p op cs b hop) (aside_spec has hin hoi).2.2 hy) hk⟩
    have second : p ∈ Region.ready md ops listed → wpAny P md ops Q' (f + 1 + g) (listed.setIfInBounds p true) (a.put op.dst v) w := by
      intro hr
      rw [show f + 1 + g = (f + g) + 1 by omega]
      refine ⟨fun h0 => absurd h0 (List.ne_nil_of_mem (ready_mono hi0 hi0p)), fun i hi => ?_⟩
      have hip : i ≠ p := by
        intro e
        subst e
        have h1 := (mem_ready.1 hi).1
        have h2 := (mem_ready.1 hr).1
        have hlt : i < listed.size := by
          rcases Nat.lt_or_ge i listed.size with h' | h'
          · exact h'
          · simp [Array.getElem?_eq_none h'] at h2
        simp [hlt] at h1
      have hcl : Closed md ops n (listed.setIfInBounds p true) := (Closed.of inv hn).set hr (by omega)
      have hi0n := (hall i0 hi0 hi0p).1
      have hin : i < n := Nat.lt_of_not_le fun h => starP_waits hs hc hn hcl h hip n i0 (by omega) hi0n (by rw [getD_set_ne true (Ne.symm hi0p)]; exact (mem_ready.1 hi0).1) hi
      obtain ⟨hun, oi, hoi, hal⟩ := mem_ready.1 hi
      obtain ⟨hno, hap1, hap2⟩ := aside_spec has hin hoi
      have hil : i ∈ Region.ready md ops listed := by
        refine mem_ready.2 ⟨by rwa [getD_set_ne true (Ne.symm hip)] at hun, oi, hoi, fun e he hb => ?_⟩
        have h1 := hal e he hb
        rwa [getD_set_ne false (fun h => hno e he hb h.symm)] at h1
      obtain ⟨oi', vi, hoi', _, hyi, _, hk⟩ := step i hil hip
      cases Option.some.inj (hoi'.symm.trans hoi)
      obtain ⟨_, hd, _⟩ := Oper.apart_spec hap1
      have h3 := hk (ready_mono hr (Ne.symm hip))
      rw [Array.setIfInBounds_comm _ _ hip, Act.put_comm a vi v (fun d hd1 hd2 => hd d hd2 hd1)] at h3
      exact wpOp_of_stOp (fun a' h' => h') ((YieldsAt.put v (fun cs b => hsel i _ cs b hoi) hap1 hyi).stOp (K := fun a' => wpAny P md ops Q' (f + g) ((listed.setIfInBounds p true).setIfInBounds i true) a' w) hoi h3)
    refine ⟨?_, second⟩
    rw [show f + 1 + (g + 1) = (f + (g + 1)) + 1 by omega]
    refine ⟨fun h0 => absurd h0 (List.ne_nil_of_mem hi0), fun i hi => ?_⟩
    by_cases hip : i = p
    · subst hip
      refine hy.wpOp hop ?_
      have := second hi
      rwa [show f + 1 + g = f + (g + 1) by omega] at this
    · obtain ⟨oi, vi, hoi, _, hyi, hk, _⟩ := step i hi hip
      exact wpOp_of_stOp (fun a' h' => h') (hyi.stOp (K := fun a' => wpAny P md ops Q' (f + (g + 1)) (listed.setIfInBounds i true) a' w) hoi hk)

/-- All that is asked of the operations. -/
def headPOk (l : List Oper) (n p : Nat) : Bool :=
  Region.noSelect l.toArray && decide (n < p) && decide (p < l.length) && Region.sinkB .any l.toArray n && starP .any l.toArray n p && headB .any l.toArray n 0 (Array.replicate l.length false) &&
    ((Region.ready .any l.toArray (listUpto n 0 (Array.replicate l.length false))).all fun j => decide (n ≤ j)) && (Region.ready .any l.toArray (listUpto n 0 (Array.replicate l.length false))).contains p &&
    Region.free .any l.toArray (listUpto n 0 (Array.replicate l.length false)) p && (match l.toArray[p]? with | some op => asideB .any l.toArray n p op | none => false)
theorem wp_region_headP {id : Nat} {Q : Exit → Act → World → Prop} {a : Act} {w : World} {l : List Oper} (n p : Nat) (op : Oper) (v : Value) (hm : P.follows .mixedOrders = true) (hB : headPOk l n p = true) (hop : l.toArray[p]? = some op)
    (hQ : ∀ c a w, Q (.panic c) (a.put op.dst v) w → Q (.panic c) a w) (hy : Yields P l.toArray op v a)
    (h : ∀ wd, wd = w.drew → wpStill P l.toArray wd (fun a' => wpAny P .any l.toArray Q (l.length - n - 1) ((listUpto n 0 (Array.replicate l.length false)).setIfInBounds p true) (a'.put op.dst v) wd) (l.take n) a) : (Code.region id l.toArray true).wp P Q a w := by
  simp only [headPOk, hop, Bool.and_eq_true, decide_eq_true_eq, List.all_eq_true] at hB
  obtain ⟨⟨⟨⟨⟨⟨⟨⟨⟨hsel, hnp⟩, hpl⟩, hs⟩, hc⟩, hh⟩, hr⟩, hrp⟩, hff⟩, has⟩ := hB
  have hn : n < l.length := by omega
  have hn' : n < l.toArray.size := by simpa using hn
  have htl : (l.take n).length = n := by simp; omega
  have inv0 : HeadInv .any l.toArray n (Array.replicate l.length false) :=
    ⟨by simp, fun j oj _ hl => (by rw [getD_replicate_false] at hl; cases hl), fun t _ ht => getD_in (by simpa using ht) (getD_replicate_false _ _)⟩
  have H := wpHead_lex (md := .any) (p := p) (fin := listUpto n 0 (Array.replicate l.length false)) hsel hs hc hn' hnp hr (l.take n) 0 _ a (fun j hj => by
    have hj' : j < n := by rw [htl] at hj; exact hj
    simp [hj']) (by simpa using htl) inv0 (by rw [htl]; exact hh) (by rw [htl]) (h w.drew rfl)
  refine wp_region_any hm ?_
  have := (wpAny_of_wpHead (Q' := Q) (g := l.length - n - 1) hop (Region.noSelect_spec hsel) hQ hs hc hn' hnp has hff (by simpa using hrp) (fun a' h' => h') _ _ _ inv0 hy H).1
  rw [htl, show n + (l.length - n - 1 + 1) = l.toArray.size by simp; omega] at this
  simpa using this
end
end Go.Proofs.Ytlalbfpdelfnfaa
