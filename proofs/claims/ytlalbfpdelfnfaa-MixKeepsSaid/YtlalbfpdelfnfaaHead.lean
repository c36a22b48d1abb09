/-
  A region that draws its order, whose first n operations leave the world alone, and whose other operations all wait for number n: the first n may be taken in the order in which they stand; the others are then gone through in whatever order. No condition; nothing of the program stands here.
-/
import Derived.StillTail
import Derived.Deep.RegionWith
import Derived.Test.YtlalbfpdelfnfaaAid
namespace Go.Proofs.Ytlalbfpdelfnfaa
open Go.RowKit
set_option linter.unusedVariables false

section
variable {P : Program} {ops : Array Oper} {md : Region.Mode} {w : World}
/-- Each operation behind number n waits for it. -/
def starB (md : Region.Mode) (ops : Array Oper) (n : Nat) : Bool := (List.range ops.size).all fun t => decide (t ≤ n) || Region.waitsFor md ops t n
theorem star_waits {n : Nat} {listed : Array Bool} (hs : Region.sinkB md ops n = true) (hc : starB md ops n = true) (hn : n < ops.size) (inv : HeadInv md ops n listed) {t : Nat} (ht : n ≤ t) :
    ∀ d i : Nat, n - i ≤ d → i < n → listed.getD i true = false → t ∉ Region.ready md ops listed
  | 0, i, hd, hi, _, _ => by omega
  | d + 1, i, hd, hi, hun, hr => by
    obtain ⟨_, ot, hot, hall⟩ := mem_ready.1 hr
    have hlt : t < ops.size := (Array.getElem?_eq_some_iff.1 hot).1
    have free : ∀ j, Region.waitsFor md ops t j = true → listed.getD j false = true := fun j hj => by
      obtain ⟨o', ho', e, he, hb, hon⟩ := Region.waitsFor_spec hj
      cases Option.some.inj (ho'.symm.trans hot)
      rw [← hon]
      exact hall e he hb
    rcases Nat.lt_or_ge n t with h | h
    · have h1 := List.all_eq_true.1 hc t (List.mem_range.2 hlt)
      have h2 : Region.waitsFor md ops t n = true := by
        rcases Bool.or_eq_true _ _ ▸ h1 with h3 | h3
        · have := of_decide_eq_true h3
          omega
        · exact h3
      have h3 := free n h2
      rw [getD_both (inv.tail n (Nat.le_refl _) hn)] at h3
      cases h3
    · obtain rfl : t = n := by omega
      obtain ⟨j, hj, hj2⟩ := List.any_eq_true.1 (List.all_eq_true.1 hs i (List.mem_range.2 hi))
      rw [Bool.and_eq_true] at hj2
      have hij := of_decide_eq_true hj2.1
      have hjt := List.mem_range.1 hj
      rcases Nat.lt_or_ge j t with hlt2 | hge
      · cases hl : listed.getD j false with
        | true =>
          obtain ⟨oj, hoj, e, he, hb, hon⟩ := Region.waitsFor_spec hj2.2
          have h2 := inv.closed j oj hoj hl e he hb
          rw [hon, getD_both hun] at h2
          cases h2
        | false => exact star_waits hs hc hn inv ht d j (by omega) hlt2 (getD_in (by rw [inv.size]; omega) hl) hr
      · obtain rfl : j = t := by omega
        have h2 := free i hj2.2
        rw [getD_both hun] at h2
        cases h2

/-- One of the first n may be taken ahead of the others. -/
theorem head_first {n i : Nat} {oi : Oper} {v : Value} {L : Array Bool → Act → Prop} (hi : ops[i]? = some oi) (hsel : ∀ (j : Nat) (o : Oper) cs b, ops[j]? = some o → o.op ≠ .select cs b)
    (hs : Region.sinkB md ops n = true) (hc : starB md ops n = true) (hn : n < ops.size) (hin : i < n) (hdone : ∀ listed a, L listed a → ∀ j ∈ Region.ready md ops listed, n ≤ j) :
    ∀ (f : Nat) (listed : Array Bool) (a : Act), HeadInv md ops n listed →
      (∀ j oj, ops[j]? = some oj → j ≠ i → listed.getD j true = false → (∀ e ∈ oj.after, Region.binds md e = true → e.on ≠ i) → oi.apart ops oj = true) →
      i ∈ Region.ready md ops listed → YieldsAt P ops w oi v a → wpAnyL P md ops w n L f (listed.setIfInBounds i true) (a.put oi.dst v) → wpAnyL P md ops w n L (f + 1) listed a := by
  intro f
  induction f with
  | zero =>
    intro listed a inv _ hr hy H
    have hun := (mem_ready.1 hr).1
    refine ⟨List.ne_nil_of_mem hr, fun j hj => ?_⟩
    by_cases hji : j = i
    · subst hji
      exact ⟨hin, hy.stOp hi H⟩
    · have h1 := hdone _ _ H j (ready_mono hj hji)
      exact absurd hj (star_waits hs hc hn inv h1 n i (by omega) hin hun)
  | succ f ih =>
    intro listed a inv hfree hr hy H
    have hun := (mem_ready.1 hr).1
    refine ⟨List.ne_nil_of_mem hr, fun j hj => ?_⟩
    have hjn : j < n := Nat.lt_of_not_le fun h => star_waits hs hc hn inv h n i (by omega) hin hun hj
    refine ⟨hjn, ?_⟩
    by_cases hji : j = i
    · subst hji
      exact hy.stOp hi H
    obtain ⟨hjun, oj, hoj, hall⟩ := mem_ready.1 hj
    have hnot : ∀ e ∈ oj.after, Region.binds md e = true → e.on ≠ i := fun e he hb heq => by
      have h1 := hall e he hb
      rw [heq, getD_both hun] at h1
      cases h1
    have h2 := stOp_put hoj (hfree j oj hoj hji hjun hnot) (fun cs b => hsel i oi cs b hi) (fun cs b => hsel j oj cs b hoj) hy ((H.2 j (ready_mono hj hji)).2)
    refine stOp_mono (fun a' h3 => ih _ a' (inv.set hj hjn) (fun k ok hk hki hku hno => hfree k ok hk hki ?_ hno) (ready_mono hr (Ne.symm hji)) h3.1 ?_) h2
    · by_cases hjk : j = k
      · subst hjk
        exact hjun
      · rwa [getD_set_ne true hjk] at hku
    · rw [Array.setIfInBounds_comm _ _ hji]
      exact h3.2

/-- In the order in which they stand each may come up, and be taken ahead of the others. -/
def headB (md : Region.Mode) (ops : Array Oper) : Nat → Nat → Array Bool → Bool
  | 0, _, _ => true
  | f + 1, k, listed => (Region.ready md ops listed).contains k && Region.free md ops listed k && headB md ops f (k + 1) (listed.setIfInBounds k true)
def listUpto : Nat → Nat → Array Bool → Array Bool
  | 0, _, listed => listed
  | f + 1, k, listed => listUpto f (k + 1) (listed.setIfInBounds k true)
theorem head_lex {n : Nat} {Lq : Act → Prop} {fin : Array Bool} (hsel : Region.noSelect ops = true) (hs : Region.sinkB md ops n = true) (hc : starB md ops n = true) (hn : n < ops.size) (hfin : ∀ j ∈ Region.ready md ops fin, n ≤ j) :
    ∀ (l : List Oper) (k : Nat) (listed : Array Bool) (a : Act), (∀ j, j < l.length → l[j]? = ops[k + j]?) → k + l.length = n → HeadInv md ops n listed →
    headB md ops l.length k listed = true → listUpto l.length k listed = fin → wpStill P ops w Lq l a → wpAnyL P md ops w n (fun listed' a' => listed' = fin ∧ Lq a') l.length listed a
  | [], k, listed, a, _, _, _, _, hf, h => ⟨hf, h⟩
  | o :: l, k, listed, a, hl, hk, inv, hB, hf, h => by
    have h0 : ops[k]? = some o := by simpa using (hl 0 (by simp)).symm
    simp only [List.length_cons, headB, Bool.and_eq_true] at hB
    obtain ⟨⟨hr, hfr⟩, hB'⟩ := hB
    have hkn : k < n := by simp only [List.length_cons] at hk; omega
    have hr' : k ∈ Region.ready md ops listed := by simpa using hr
    obtain ⟨v, hy, hK⟩ := yieldsAt_of_stOp h0 (show stOp P ops w k (wpStill P ops w Lq l) a by unfold stOp; simp only [h0]; exact h)
    exact head_first h0 (Region.noSelect_spec hsel) hs hc hn hkn (fun listed' a' hL => by rw [hL.1]; exact hfin) l.length listed a inv (Region.free_spec h0 hfr) hr' hy
      (head_lex hsel hs hc hn hfin l (k + 1) _ _ (fun j hj => by have := hl (j + 1) (by simp; omega); simpa [Nat.add_assoc, Nat.add_comm 1 j] using this) (by simp only [List.length_cons] at hk; omega) (inv.set hr' hkn) hB' hf hK)

/-- All that is asked of the operations. -/
def headOk (l : List Oper) (n : Nat) : Bool :=
  Region.noSelect l.toArray && decide (n < l.length) && Region.sinkB .any l.toArray n && starB .any l.toArray n && headB .any l.toArray n 0 (Array.replicate l.length false) &&
    (Region.ready .any l.toArray (listUpto n 0 (Array.replicate l.length false))).all fun j => decide (n ≤ j)
theorem wp_region_head {id : Nat} {Q : Exit → Act → World → Prop} {a : Act} {w : World} {l : List Oper} (n : Nat) (hm : P.follows .mixedOrders = true) (hB : headOk l n = true)
    (h : ∀ wd, wd = w.drew → wpStill P l.toArray wd (fun a' => wpAny P .any l.toArray Q (l.length - n) (listUpto n 0 (Array.replicate l.length false)) a' wd) (l.take n) a) : (Code.region id l.toArray true).wp P Q a w := by
  simp only [headOk, Bool.and_eq_true, decide_eq_true_eq, List.all_eq_true] at hB
  obtain ⟨⟨⟨⟨⟨hsel, hn⟩, hs⟩, hc⟩, hh⟩, hr⟩ := hB
  have hn' : n < l.toArray.size := by simpa using hn
  have htl : (l.take n).length = n := by simp; omega
  have inv0 : HeadInv .any l.toArray n (Array.replicate l.length false) :=
    ⟨by simp, fun j oj _ hl => (by rw [getD_replicate_false] at hl; cases hl), fun t _ ht => getD_in (by simpa using ht) (getD_replicate_false _ _)⟩
  have H := head_lex (md := .any) (fin := listUpto n 0 (Array.replicate l.length false)) hsel hs hc hn' hr (l.take n) 0 _ a (fun j hj => by
    have hj' : j < n := by rw [htl] at hj; exact hj
    simp [hj']) (by simpa using htl) inv0 (by rw [htl]; exact hh) (by rw [htl]) (h w.drew rfl)
  refine wp_region_any hm ?_
  have := wpAny_of_head (Q' := Q) (g := l.length - n) (fun listed a' hL => by
    rw [hL.1]
    exact hL.2) _ _ _ H
  rw [htl, show n + (l.length - n) = l.toArray.size by simp; omega] at this
  simpa using this
end
end Go.Proofs.Ytlalbfpdelfnfaa
