/-
  The set of keys: its keys, the oldest first. No condition but that the set is one.
-/
import Derived.Test.YtnamakimmlnleaaSorted
namespace Go.Proofs.Ytnamakimmlnleaa
open Go.RowKit Go.ChangeMaps Go.Sort
set_option linter.unusedVariables false

theorem look_at {W : World} {mb n next : Nat} {D : DataW Nat} {L : List (ByteArray × Nat)} (ho : W.ownsMap Try.prog 9 (plainElem Try.prog 3) mb n D) (hK : Kept D L next) {p : ByteArray × Nat} (hp : p ∈ L) (hs : p.1.size ≤ 1048576) (q : Nat) :
    (Instr.lookup 45 (.map (some mb)) (.string p.1) false).run Try.prog (W.drewN q) = .ok (.int .i64 p.2) (W.drewN q) := by
  have ho' : (W.drewN q).ownsMap Try.prog 9 (plainElem Try.prog 3) mb n D := ho
  have hkey := WideMaps.keyOf_string_mk Try.underlying9 (s := p.1) (by unfold maxLen; omega)
  obtain ⟨c, hrun, hat, _⟩ := ho'.lookup_int law9 Try.underlying45 Try.underlying3 (zero3 _) hkey
  have e := hK.at_ hp (.lit (.int .i64 0))
  unfold klit at e
  rw [e] at hat
  obtain rfl : ((p.2 : Nat) : Int) = c := by
    injection hat with hat
    injection hat
  exact hrun

theorem cmp_any {W : World} {bx g mb n next most gone : Nat} {D : DataW Nat} {L : List (ByteArray × Nat)} (hbx : W.heap[bx]? = some (.cells #[.pointer (some ⟨g, 0, none⟩)] 22 (0, 0)))
    (hg : W.heap[g]? = some (.cells #[.map (some mb), .int .i64 next, .int .i64 most, .int .i64 gone] 47 (0, 0))) (ho : W.ownsMap Try.prog 9 (plainElem Try.prog 3) mb n D) (hK : Kept D L next) (hn : next ≤ 1000000)
    (x y : ByteArray × Nat) (hx : x ∈ L) (hy : y ∈ L) (hxs : x.1.size ≤ 1048576) (hys : y.1.size ≤ 1048576) :
    Calls Try.prog 26 #[.string x.1, .string y.1, .pointer (some ⟨bx, 0, none⟩)] W fun e w' => e = .returned (.int .i64 ((x.2 : Int) - y.2)) ∧ ∃ q, w' = W.drewN q := by
  have c0 : W.cell? ⟨bx, 0, none⟩ = some (.pointer (some ⟨g, 0, none⟩)) := cell_of_row W bx 0 _ _ _ hbx
  have c1 : W.cell? ⟨g, 0, none⟩ = some (.map (some mb)) := cell_of_row W g 0 _ _ _ hg
  have hlx := look_at ho hK hx hxs
  have hly := look_at ho hK hy hys
  have h1 : x.2 < 1000000 := Nat.lt_of_lt_of_le (hK.lt x hx) hn
  have h2 : y.2 < 1000000 := Nat.lt_of_lt_of_le (hK.lt y hy) hn
  obtain ⟨xk, xn⟩ := x
  obtain ⟨yk, yn⟩ := y
  simp only at hlx hly h1 h2
  clear hbx hg ho hK hx hy hxs hys
  go_enter Try.func26, Try.ntmps26
  go_wp2
  go_quiet (fail)
  go_wp2
  go_ret
  exact ⟨rfl, _, rfl⟩

theorem strKeys_perm {D : DataW Nat} {L : List (ByteArray × Nat)} {next : Nat} (hK : Kept D L next) : (strKeys D).Perm (L.map fun p => p.1.data.toList) := by
  obtain ⟨⟨es, rfl, hp⟩, _⟩ := hK
  have := hp.map fun p => strOf p.1
  rw [List.map_map] at this
  exact this

theorem encStr_data (k : ByteArray) : encStr k.data.toList = .string k := by
  unfold encStr
  rw [Lib.mk_data]

/-- The sort of the keys that were collected. -/
theorem sort_any {w w2 : World} {g mb g2 cap next most gone : Nat} {D : DataW Nat} {L M : List (ByteArray × Nat)} {cur : Array Value} {o1 : Obj} (hlt : g < w.heap.size) (hmlt : mb < w.heap.size)
    (hg : w.heap[g]? = some (.cells #[.map (some mb), .int .i64 next, .int .i64 most, .int .i64 gone] 47 (0, 0))) (ho : w.ownsMap Try.prog 9 (plainElem Try.prog 3) mb next D) (hK : Kept D L next) (hn : next ≤ 1000000) (hkeys : ∀ p ∈ L, p.1.size ≤ 1048576)
    (hbel : RowKit.Below ((w.alloc (.cells #[.pointer (some ⟨g, 0, none⟩)] 22)).alloc o1).heap.size ((w.alloc (.cells #[.pointer (some ⟨g, 0, none⟩)] 22)).alloc o1) w2)
    (hL : L ≠ []) (hLn : L.length ≤ 1000000) (hM : M.Perm L) (hg2 : w.heap.size + 2 ≤ g2) (hb2 : w2.heap[g2]? = some (.cells cur 9 (0, 0))) (hc1 : L.length ≤ cap) (hc2 : cap ≤ maxLen) (hc3 : cur.size = cap) (hcur : cur.toList.take L.length = M.map fun p => Value.string p.1) :
    Calls Try.prog 25 #[.slice (some ⟨g2, 0, none⟩) L.length cap, .func (.func 26) #[] #[.pointer (some ⟨w.heap.size, 0, none⟩)]] w2 fun e w3 => e = .returned (.tuple #[]) ∧
      Row w3 w.heap.size 9 (.slice (some ⟨g2, 0, none⟩) L.length cap) L.length (L.map fun p => .string p.1) ∧ RowKit.Below w.heap.size w w3 := by
  have hin : ∀ p ∈ M, p ∈ L := fun p hp => hM.mem_iff.1 hp
  obtain ⟨p0, hp0⟩ := List.exists_mem_of_ne_nil L hL
  letI : Inhabited (Key L) := ⟨⟨p0, hp0⟩⟩
  obtain ⟨d, hd⟩ : ∃ d : Array (Key L), d.toList.map Subtype.val = M := ⟨(M.attachWith (· ∈ L) hin).toArray, by simp; first | exact List.attach_map_subtype_val M | exact List.attach_map_val M⟩
  have hds : d.size = L.length := by rw [← hM.length_eq, ← hd]; simp
  have hlt2 := blk_lt hb2
  have hsz : ((w.alloc (.cells #[.pointer (some ⟨g, 0, none⟩)] 22)).alloc o1).heap.size = w.heap.size + 2 := by simp
  have hb0 : RowKit.Below w.heap.size w w2 := ((RowKit.Below.refl _ w).alloc (Nat.le_refl _) _ |>.alloc (by simp) _).trans (hbel.mono (by rw [hsz]; omega))
  have hbx : w2.heap[w.heap.size]? = some (.cells #[.pointer (some ⟨g, 0, none⟩)] 22 (0, 0)) := by
    rw [hbel.block _ (by rw [hsz]; omega), Below.heap_alloc _ _ _ (by simp)]
    exact heap_alloc_new w _
  have hH : Holds (kenc (L := L)) w2 g2 0 d := by
    intro j hj
    refine ⟨?_, by rw [Nat.zero_add]; exact blk_frozen hb2 j⟩
    rw [cell_of_row w2 g2 _ _ _ _ hb2, Nat.zero_add, getElem!_pos d j hj]
    have e := congrArg (fun l => l[j]?) hcur
    simp only [List.getElem?_take, if_pos (show j < L.length by omega), ← hd, List.getElem?_map] at e
    rw [List.getElem?_eq_getElem (l := d.toList) (by simpa using hj)] at e
    have e' : cur[j]? = some (Value.string d[j].val.fst) := by simpa using e
    exact e'
  have hcmp : CmpReads Try.prog 26 #[.pointer (some ⟨w.heap.size, 0, none⟩)] (kenc (L := L)) kcf g2 0 d.size w2 := by
    intro m os dk _ x y
    have hs : ∀ k, k < w.heap.size + 2 → (sortWorld (kenc (L := L)) w2 g2 0 m dk os).heap[k]? = w2.heap[k]? := fun k hk => sorted_other (by omega) (by omega)
    refine cmp_any (n := next) ((hs _ (by omega)).trans hbx) (((hs _ (by omega)).trans (hb0.block g hlt)).trans hg) ?_ hK hn x.1 y.1 x.2 y.2 (hkeys _ x.2) (hkeys _ y.2)
    obtain ⟨es, cl, hbb, rest⟩ := ho
    exact ⟨es, cl, ((hs mb (by omega)).trans (hb0.block mb hmlt)).trans hbb, rest⟩
  have hs := Try.slices_SortFunc (kenc (L := L)) kone kcf kswo 26 #[.pointer (some ⟨w.heap.size, 0, none⟩)] g2 0 cap d w2 (enters_of Try.func26 (by kernel_rfl) rfl) hcmp.lays hH hlt2 (by rw [hds]; omega)
  rw [hds] at hs
  refine hs.mono ?_
  rintro e w3 ⟨rfl, d', n, os, hp, hso, rfl⟩
  have hlist := sorted_is hK d d' (by rw [hd]; exact hM) (by rw [hds]; exact hp) (by rw [hds]; exact hso)
  have hrow := sorted_row (B := w.heap.size) (n := n) (os := os) (d' := d') hH (by rw [hds]; exact hp.1.trans hds) hb2 (by omega) (by rw [hds]; exact hc1) hc2 (by omega)
  refine ⟨rfl, ?_, hb0.trans ((sorted_below (B := w.heap.size) (by omega) hlt2))⟩
  rw [hds] at hrow
  have e : d'.toList.map kenc = L.map fun p => Value.string p.1 := by
    have e2 := congrArg (List.map fun p : ByteArray × Nat => Value.string p.1) hlist
    rw [List.map_map] at e2
    exact e2
  rw [e] at hrow
  exact hrow

end Go.Proofs.Ytnamakimmlnleaa
