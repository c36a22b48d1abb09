/-
  Keys in the order in which they came, each with its number, and the map that holds them: plain lists. No condition; nothing of the program stands here.
-/
import Derived.Test.YtnamakimmlnleaaAid
import Derived.Maps.RangeWalk
namespace Go.Proofs.Ytnamakimmlnleaa
open Go.RowKit Go.ChangeMaps
set_option linter.unusedVariables false

def klit (k : ByteArray) : Lit := .string k.data.toList
def ent (p : ByteArray × Nat) : Lit × DataW Nat := (klit p.1, .lit (.int .i64 p.2))

/-- The map D holds the keys of L, each with its number; the numbers rise, and are below next. -/
structure Kept (D : DataW Nat) (L : List (ByteArray × Nat)) (next : Nat) : Prop where
  ex : ∃ es, D = .map es ∧ es.Perm (L.map ent)
  up : L.Pairwise fun p q => p.2 < q.2
  lt : ∀ p ∈ L, p.2 < next
  one : L.Pairwise fun p q => p.1 ≠ q.1

theorem klit_inj {a b : ByteArray} (h : klit a = klit b) : a = b := by
  unfold klit at h
  injection h with h
  exact ext_data h
theorem same_klit (a b : ByteArray) : (klit a).sameKey (klit b) = decide (a = b) := by
  by_cases h : a = b
  · subst h
    rw [decide_eq_true rfl]
    exact WideAt.sameKey_self trivial
  · rw [decide_eq_false h]
    exact Maps.sameKey_ne fun e => h (klit_inj e)

theorem insert_perm (x : Lit × DataW Nat) : ∀ l : List (Lit × DataW Nat), (DataW.insert x l).Perm (x :: l)
  | [] => List.Perm.refl _
  | y :: r => by
    unfold DataW.insert
    split
    · exact List.Perm.refl _
    · exact ((insert_perm x r).cons y).trans (List.Perm.swap x y r)

theorem Kept.start : Kept (.map []) [] 0 := ⟨⟨[], rfl, List.Perm.refl _⟩, List.Pairwise.nil, (fun p h => by cases h), List.Pairwise.nil⟩

section
variable {D : DataW Nat} {L : List (ByteArray × Nat)} {next : Nat}
theorem Kept.many (h : Kept D L next) : Maps.size D = L.length := by
  obtain ⟨⟨es, rfl, hp⟩, _⟩ := h
  rw [Maps.size_eq, hp.length_eq, List.length_map]
theorem Kept.has (h : Kept D L next) (k : ByteArray) : Maps.has D (klit k) = L.any fun p => decide (p.1 = k) := by
  obtain ⟨⟨es, rfl, hp⟩, _⟩ := h
  rw [Maps.has_eq, hp.any_eq, List.any_map]
  congr 1
  funext p
  exact same_klit p.1 k
theorem filter_ent (k : ByteArray) (L : List (ByteArray × Nat)) : (L.map ent).filter (notKey (klit k)) = (L.filter fun p => !decide (p.1 = k)).map ent := by
  rw [List.filter_map]
  congr 1
  congr 1
  funext p
  show (!(klit p.1).sameKey (klit k)) = _
  rw [same_klit]
theorem Kept.del (h : Kept D L next) (k : ByteArray) : Kept (D.del (klit k)) (L.filter fun p => !decide (p.1 = k)) next := by
  obtain ⟨⟨es, rfl, hp⟩, h1, h2, h3⟩ := h
  refine ⟨⟨_, DataW.del_eq _ _, ?_⟩, h1.filter _, fun p hp => h2 p (List.mem_filter.1 hp).1, h3.filter _⟩
  unfold delKey
  rw [← filter_ent]
  exact hp.filter _
theorem Kept.put (h : Kept D L next) (k : ByteArray) (hk : (L.any fun p => decide (p.1 = k)) = false) : Kept (D.put (klit k) (.lit (.int .i64 next))) (L ++ [(k, next)]) (next + 1) := by
  have hno : ∀ p ∈ L, p.1 ≠ k := fun p hp => by simpa using List.any_eq_false.1 hk p hp
  obtain ⟨⟨es, rfl, hp⟩, h1, h2, h3⟩ := h
  refine ⟨⟨_, DataW.put_eq _ _ _, ?_⟩, ?_, ?_, ?_⟩
  · unfold putKey
    refine (insert_perm _ _).trans ?_
    rw [List.map_append]
    refine List.Perm.trans ?_ List.perm_append_comm
    refine List.Perm.cons _ ?_
    refine (hp.filter _).trans ?_
    rw [filter_ent, List.filter_eq_self.2 fun p hp => by simp [hno p hp]]
    exact List.Perm.refl _
  · rw [List.pairwise_append]
    exact ⟨h1, List.pairwise_singleton _ _, fun p hp q hq => by simp at hq; subst hq; exact h2 p hp⟩
  · intro p hp
    rcases List.mem_append.1 hp with hp | hp
    · exact Nat.lt_succ_of_lt (h2 p hp)
    · simp at hp
      subst hp
      exact Nat.lt_succ_self _
  · rw [List.pairwise_append]
    exact ⟨h3, List.pairwise_singleton _ _, fun p hp q hq => by simp at hq; subst hq; exact hno p hp⟩
theorem Kept.at_ (h : Kept D L next) {p : ByteArray × Nat} (hp : p ∈ L) (zd : DataW Nat) : D.atKey (klit p.1) zd = .lit (.int .i64 p.2) := by
  obtain ⟨⟨es, rfl, hpm⟩, _, _, h3⟩ := h
  have hD : ∀ o, es.find? (fun q => q.1.sameKey (klit p.1)) = o → (DataW.map es).atKey (klit p.1) zd = (o.map Prod.snd).getD zd := by
    intro o ho
    unfold DataW.atKey
    dsimp only
    rw [ho]
    cases o <;> rfl
  rw [hD _ rfl]
  have hmem : ent p ∈ es := hpm.mem_iff.2 (List.mem_map_of_mem hp)
  cases hf : es.find? (fun q => q.1.sameKey (klit p.1)) with
  | none =>
    have := List.find?_eq_none.1 hf (ent p) hmem
    rw [show (ent p).1 = klit p.1 from rfl, same_klit] at this
    simp at this
  | some q =>
    have h1 := List.find?_some hf
    have h2 := List.mem_of_find?_eq_some hf
    obtain ⟨r, hr, rfl⟩ := List.mem_map.1 (hpm.mem_iff.1 h2)
    rw [show (ent r).1 = klit r.1 from rfl, same_klit] at h1
    have h1 : r.1 = p.1 := of_decide_eq_true h1
    have : r = p := by
      by_cases e : r = p
      · exact e
      · exact absurd h1 (pairwise_ne h3 hr hp e)
    subst this
    rfl
where
  pairwise_ne {L : List (ByteArray × Nat)} (h : L.Pairwise fun p q => p.1 ≠ q.1) {r p : ByteArray × Nat} (hr : r ∈ L) (hp : p ∈ L) (e : r ≠ p) : r.1 ≠ p.1 := by
    induction L with
    | nil => cases hr
    | cons x t ih =>
      obtain ⟨h1, h2⟩ := List.pairwise_cons.1 h
      rcases List.mem_cons.1 hr with er | hr'
      · rcases List.mem_cons.1 hp with ep | hp'
        · exact absurd (er.trans ep.symm) e
        · exact er ▸ h1 p hp'
      · rcases List.mem_cons.1 hp with ep | hp'
        · exact fun e' => h1 r hr' (ep ▸ e').symm
        · exact ih h2 hr' hp'
theorem Kept.first {p : ByteArray × Nat} {t : List (ByteArray × Nat)} (h : Kept D (p :: t) next) : ((p :: t).filter fun q => !decide (q.1 = p.1)) = t := by
  have h1 := (List.pairwise_cons.1 h.one).1
  rw [List.filter_cons_of_neg (by simp)]
  exact List.filter_eq_self.2 fun q hq => by simpa using fun e => h1 q hq (Eq.symm e)
theorem Kept.least {p : ByteArray × Nat} {t : List (ByteArray × Nat)} (h : Kept D (p :: t) next) {q : ByteArray × Nat} (hq : q ∈ p :: t) : p.2 ≤ q.2 := by
  rcases List.mem_cons.1 hq with rfl | hq
  · exact Nat.le_refl _
  · exact Nat.le_of_lt ((List.pairwise_cons.1 h.up).1 q hq)
theorem Kept.same {p q : ByteArray × Nat} (h : Kept D L next) (hp : p ∈ L) (hq : q ∈ L) (e : p.2 = q.2) : p = q := by
  have h1 := h.up
  clear h
  induction L with
  | nil => cases hp
  | cons x t ih =>
    obtain ⟨h2, h3⟩ := List.pairwise_cons.1 h1
    rcases List.mem_cons.1 hp with ep | hp'
    · rcases List.mem_cons.1 hq with eq | hq'
      · exact ep.trans eq.symm
      · have := h2 q hq'
        rw [← ep] at this
        omega
    · rcases List.mem_cons.1 hq with eq | hq'
      · have := h2 p hp'
        rw [← eq] at this
        omega
      · exact ih hp' hq' h3
end

end Go.Proofs.Ytnamakimmlnleaa
