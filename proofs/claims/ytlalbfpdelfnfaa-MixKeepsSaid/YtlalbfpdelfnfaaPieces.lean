/-
  Layer 43 (mix): the pieces into which bytes are cut: the sizes, and what goes through the pieces. No condition but that the sizes are one, from one to a thousand, and the bytes are not many.
-/
import Derived.Test.YtlalbfpdelfnfaaRangeW
import Derived.Test.YtlalbfpdelfnfaaShift
namespace Go.Proofs.Ytlalbfpdelfnfaa
open Go.RowKit Go.Shelf
set_option linter.unusedVariables false
attribute [local go_sem] Oper.semAt_some

/-- What a knife is in memory: one size. -/
structure Knife (w : World) (kn sb so cap : Nat) (at_ : Nat) (z : Nat) : Prop where
  blk : w.heap[kn]? = some (.cells #[.slice (some ⟨sb, so, none⟩) 1 cap, .int .i64 at_] 54 (0, 0))
  size : w.cell? ⟨sb, so, none⟩ = some (.int .i64 z)
theorem Knife.keep {w w' : World} {kn sb so cap at_ z : Nat} (h : Knife w kn sb so cap at_ z) (h1 : w'.heap[kn]? = w.heap[kn]?) (h2 : w'.heap[sb]? = w.heap[sb]?) : Knife w' kn sb so cap at_ z :=
  ⟨h1.trans h.blk, (World.cell?_of_block (w := w) (a := ⟨sb, so, none⟩) h2).trans h.size⟩

set_option maxRecDepth 100000 in
theorem next_any {w : World} {kn sb so cap at_ z : Nat} (left : Nat) (h : Knife w kn sb so cap at_ z) (hz : z ≤ 1000) (hl : left ≤ 1000000) (ha : at_ ≤ 1000000) :
    Calls Try.prog 44 #[.pointer (some ⟨kn, 0, none⟩), .int .i64 left] w fun e w' => e = .returned (.int .i64 (min z left : Nat)) ∧ ∃ q, w' = (w.drewN q).setCell ⟨kn, 1, none⟩ (.int .i64 (at_ + 1 : Nat)) := by
  have c0 : w.cell? ⟨kn, 0, none⟩ = some (.slice (some ⟨sb, so, none⟩) 1 cap) := cell_of_row w kn 0 _ _ _ h.blk
  have c1 : w.cell? ⟨kn, 1, none⟩ = some (.int .i64 at_) := cell_of_row w kn 1 _ _ _ h.blk
  have c2 := h.size
  have f1 := blk_frozen h.blk 1
  have hm : ((at_ : Int).tmod 1) = 0 := by simp
  have hm2 : (at_ : Int) % 1 = 0 := by omega
  clear h
  go_enter Try.func44, Try.ntmps44
  go_wp2_with fail
  go_quiet (fail)
  go_wp2
  go_ret
  exact ⟨ret_int (by omega), nq, rfl⟩

/-- Bytes, cut by one size into so many pieces, and the rest. -/
def cutP (z : Nat) : Nat → ByteArray → List ByteArray
  | 0, s => if s.size = 0 then [] else [s]
  | f + 1, s => if s.size = 0 then [] else s.extract 0 (min z s.size) :: cutP z f (s.extract (min z s.size) s.size)
def pieces (z : Nat) (s : ByteArray) : List ByteArray := if s.size = 0 then [s] else cutP z 4 s
theorem empty_of {s : ByteArray} (h : s.size = 0) : s.toList = [] := by
  rw [Lib.toList_data]
  exact List.eq_nil_of_length_eq_zero (by rw [← Lib.size_eq]; exact h)
theorem some_of {s : ByteArray} (h : ¬ s.size = 0) : s.toList.isEmpty = false := by
  rw [Lib.toList_data]
  cases hd : s.data.toList with
  | nil => exact absurd (by rw [Lib.size_eq, hd]; rfl) h
  | cons a l => rfl

/-- What a round must keep for the one that goes through the pieces. -/
def KeepsP (bs bk kn sb : Nat) (W W' : World) : Prop := W'.heap[bs]? = W.heap[bs]? ∧ W'.heap[bk]? = W.heap[bk]? ∧ W'.heap[kn]? = W.heap[kn]? ∧ W'.heap[sb]? = W.heap[sb]?
def OwnP (bs kn : Nat) (b : Nat) (t : TypeId) : Prop := (b = bs ∧ t = 9) ∨ (b = kn ∧ t = 54)
/-- How it stands with it. -/
structure StateP (W : World) (bs bk kn sb so cap z : Nat) (at_ : Nat) (s : ByteArray) : Prop where
  s : W.heap[bs]? = some (.cells #[.string s] 9 (0, 0))
  k : W.heap[bk]? = some (.cells #[.pointer (some ⟨kn, 0, none⟩)] 52 (0, 0))
  knife : Knife W kn sb so cap at_ z
  ne : bs ≠ kn ∧ bs ≠ sb ∧ bs ≠ bk ∧ bk ≠ kn ∧ bk ≠ sb ∧ kn ≠ sb
theorem StateP.keeps {W W' : World} {bs bk kn sb so cap z at_ : Nat} {s : ByteArray} (h : StateP W bs bk kn sb so cap z at_ s) (hk : KeepsP bs bk kn sb W W') : StateP W' bs bk kn sb so cap z at_ s :=
  ⟨hk.1.trans h.s, hk.2.1.trans h.k, h.knife.keep hk.2.2.1 hk.2.2.2, h.ne⟩
theorem StateP.next {W : World} {bs bk kn sb so cap z at_ : Nat} {s : ByteArray} (h : StateP W bs bk kn sb so cap z at_ s) (q : Nat) : StateP ((W.drewN q).setCell ⟨kn, 1, none⟩ (.int .i64 (at_ + 1 : Nat))) bs bk kn sb so cap z (at_ + 1) s := by
  obtain ⟨n1, n2, n3, n4, n5, n6⟩ := h.ne
  refine ⟨(Below.heap_setCell _ _ _ _ n1).trans h.s, (Below.heap_setCell _ _ _ _ n4).trans h.k, ⟨?_, ?_⟩, h.ne⟩
  · rw [blk_set (w := W.drewN q) h.knife.blk 1]
    rfl
  · exact (World.cell?_of_block (w := W) (a := ⟨sb, so, none⟩) (Below.heap_setCell (W.drewN q) _ _ _ (Ne.symm n6))).trans h.knife.size
theorem StateP.rest {W : World} {bs bk kn sb so cap z at_ : Nat} {s : ByteArray} (h : StateP W bs bk kn sb so cap z at_ s) (t : ByteArray) : StateP (W.setCell ⟨bs, 0, none⟩ (.string t)) bs bk kn sb so cap z at_ t := by
  obtain ⟨n1, n2, n3, n4, n5, n6⟩ := h.ne
  refine ⟨?_, (Below.heap_setCell _ _ _ _ (Ne.symm n3)).trans h.k, h.knife.keep (Below.heap_setCell _ _ _ _ (Ne.symm n1)) (Below.heap_setCell _ _ _ _ (Ne.symm n2)), h.ne⟩
  rw [blk_set h.s 0]
  rfl
theorem own_next {W : World} {bs kn at_ sb so cap q : Nat} (h : W.heap[kn]? = some (.cells #[.slice (some ⟨sb, so, none⟩) 1 cap, .int .i64 at_] 54 (0, 0))) (u : Value) :
    ∀ b, ((W.drewN q).setCell ⟨kn, 1, none⟩ u).heap[b]? = W.heap[b]? ∨ ∃ t cs cs' m, OwnP bs kn b t ∧ W.heap[b]? = some (.cells cs t m) ∧ ((W.drewN q).setCell ⟨kn, 1, none⟩ u).heap[b]? = some (.cells cs' t m) := fun b => by
  by_cases hb : b = kn
  · subst hb
    exact .inr ⟨54, _, _, _, .inr ⟨rfl, rfl⟩, h, blk_set (w := W.drewN q) h 1 u⟩
  · exact .inl (Below.heap_setCell (W.drewN q) _ _ _ hb)
theorem own_rest {W : World} {bs kn : Nat} {s : ByteArray} (h : W.heap[bs]? = some (.cells #[.string s] 9 (0, 0))) (u : Value) :
    ∀ b, (W.setCell ⟨bs, 0, none⟩ u).heap[b]? = W.heap[b]? ∨ ∃ t cs cs' m, OwnP bs kn b t ∧ W.heap[b]? = some (.cells cs t m) ∧ (W.setCell ⟨bs, 0, none⟩ u).heap[b]? = some (.cells cs' t m) := fun b => by
  by_cases hb : b = bs
  · subst hb
    exact .inr ⟨9, _, _, _, .inl ⟨rfl, rfl⟩, h, blk_set h 0 u⟩
  · exact .inl (Below.heap_setCell W _ _ _ hb)

set_option maxRecDepth 100000 in
set_option maxHeartbeats 4000000 in
theorem pieces1_writes {w : World} {n bs bk kn sb so cap z at_ : Nat} {s : ByteArray} (hn : 3 ≤ n) (hs : StateP w bs bk kn sb so cap z at_ s) (hz : z ≤ 1000) (hsz : s.size ≤ 100000) (hat : at_ ≤ 100000) :
    SeqWrites Fence.wide n Try.prog 43 #[.pointer (some ⟨bs, 0, none⟩), .pointer (some ⟨bk, 0, none⟩)] (fun x : ByteArray => #[.string x]) (OwnP bs kn) (KeepsP bs bk kn sb) (fun xs => xs = pieces z s) 5 (fun W => ∃ a, a ≤ at_ + 4 ∧ Knife W kn sb so cap a z) w := by
  intro l J W1 hW hJ hY h0
  have HS := Lib.hid (hs.keeps hW)
  have HJ := Lib.hid hJ
  have HY := Lib.hid hY
  clear hs hW hJ hY
  refine callsIn_of_wp Try.func43 rfl trivial ?_ rfl
  simp only [Try.ntmps43, List.size_toArray, List.length_cons, List.length_nil, Nat.reduceAdd, Nat.reduceSub, Array.replicate_succ, Array.replicate_zero, List.push_toArray, List.append_toArray, List.nil_append, List.cons_append]
  have c0 : W1.cell? ⟨bs, 0, none⟩ = some (.string s) := cell_of_row W1 bs 0 _ _ _ HS.out.s
  have c1 : W1.cell? ⟨bk, 0, none⟩ = some (.pointer (some ⟨kn, 0, none⟩)) := cell_of_row W1 bk 0 _ _ _ HS.out.k
  have c2 : W1.cell? ⟨kn, 0, none⟩ = some (.slice (some ⟨sb, so, none⟩) 1 cap) := cell_of_row W1 kn 0 _ _ _ HS.out.knife.blk
  have h1 : 1 ≤ n := by omega
  by_cases he : s.size = 0
  · have e1 := empty_of he
    obtain ⟨fn, tmps, assign, body, hy, hR⟩ := HY.out [] s W1 h0 (by simp)
    have HP : Hid (pieces z s = [s]) := by unfold Hid pieces; rw [if_pos he]
    have e2 : s.toList.isEmpty = true := by rw [e1]; rfl
    gi_wp2
    refine hR.mono ?_
    rintro e W3 ⟨rfl, hJ3, hk3⟩
    gi_wp2
    refine bodyPost_ret (results_none rfl _ _ _) rfl ?_
    exact ⟨⟨_, rfl⟩, _, HP.out.symm, hJ3, at_, by omega, (HS.out.keeps hk3).knife⟩
  · have e1 := some_of he
    have HP : Hid (pieces z s = cutP z 4 s) := by unfold Hid pieces; rw [if_neg he]
    gi_wp2
    gi_loopw [4] (fun iv wr => ∃ (i f : Nat) (rest : ByteArray) (pre : List ByteArray), iv = .int .i64 i ∧ i + f = 4 ∧ rest.size ≤ 100000 ∧ Hid (StateP wr bs bk kn sb so cap z (at_ + i) rest) ∧ Hid (pre.length = i) ∧ Hid (J pre wr) ∧ Hid (pre ++ cutP z f rest = pieces z s)) (fun iv _ => 4 - (intOf iv).toNat)
    case atStart => exact ⟨0, 4, s, [], rfl, rfl, hsz, HS, Lib.hid rfl, h0, by unfold Hid; rw [HP.out]; rfl⟩
    case round =>
      obtain ⟨i, f, rest, pre, rfl, hif, hrs, HST, HLN, HJP, HPP⟩ := hrel
      have x0 : wr.cell? ⟨bs, 0, none⟩ = some (.string rest) := cell_of_row wr bs 0 _ _ _ HST.out.s
      have x1 : wr.cell? ⟨bk, 0, none⟩ = some (.pointer (some ⟨kn, 0, none⟩)) := cell_of_row wr bk 0 _ _ _ HST.out.k
      by_cases hr : rest.size = 0
      · have e2 := empty_of hr
        have e3 : rest.toList.isEmpty = true := by rw [e2]; rfl
        have HE : Hid (cutP z f rest = []) := by
          unfold Hid
          cases f with
          | zero => simp [cutP, hr]
          | succ f => simp [cutP, hr]
        by_cases hlt : i < 4
        all_goals
          gi_wp2
          go_end0
          refine ⟨⟨_, rfl⟩, ?_⟩
          rw [← HPP.out, HE.out, List.append_nil]
          first | exact ⟨HJP.out, _, by omega, HST.out.knife⟩ | exact ⟨_, rfl, HJP.out, _, by omega, HST.out.knife⟩
      · have e2 := some_of hr
        by_cases hlt : i < 4
        · obtain ⟨f', rfl⟩ : ∃ f', f = f' + 1 := ⟨f - 1, by omega⟩
          have HE : Hid (cutP z (f' + 1) rest = rest.extract 0 (min z rest.size) :: cutP z f' (rest.extract (min z rest.size) rest.size)) := by unfold Hid; simp only [cutP]; rw [if_neg hr]
          have HN := Lib.hid (next_any rest.size HST.out.knife hz (by omega) (by omega))
          obtain ⟨m, hm⟩ : ∃ m, min z rest.size = m := ⟨_, rfl⟩
          have hmle : m ≤ rest.size := by omega
          rw [hm] at HE HN
          clear hm
          gi_wp2
          refine ⟨trivial, ?_⟩
          refine (callsIn_wide.2 HN.out).mono ?_
          rintro e w3 ⟨rfl, q, hw3⟩
          have HS3 : Hid (StateP w3 bs bk kn sb so cap z (at_ + i + 1) rest) := by rw [hw3]; exact HST.out.next q
          have HJ3 : Hid (J pre w3) := by rw [hw3]; exact HJ.out pre _ _ HJP.out (own_next (q := q) HST.out.knife.blk (.int .i64 (at_ + i + 1 : Nat))) rfl rfl rfl (by simp [World.setCell])
          clear hw3
          obtain ⟨fn, tmps, assign, body, hy, hR⟩ := HY.out pre (rest.extract 0 m) _ HJ3.out (by rw [HLN.out]; omega)
          have y0 := cell_of_row _ bs 0 _ _ _ HS3.out.s
          clear x0 x1
          gi_wp2
          refine hR.mono ?_
          rintro e W4 ⟨rfl, hJ4, hk4⟩
          have HS4 := Lib.hid (HS3.out.keeps hk4)
          have z0 : W4.cell? ⟨bs, 0, none⟩ = some (.string rest) := cell_of_row W4 bs 0 _ _ _ HS4.out.s
          have z1 := blk_frozen HS4.out.s 0
          have HJ4 := Lib.hid (HJ.out _ _ _ hJ4 (own_rest HS4.out.s (.string (rest.extract m rest.size))) rfl rfl rfl (by simp [World.setCell]))
          have HS5 := Lib.hid (HS4.out.rest (rest.extract m rest.size))
          clear y0 hy hJ4 hk4
          gi_wp2
          go_roundw
          case rel =>
            refine ⟨i + 1, f', rest.extract m rest.size, pre ++ [rest.extract 0 m], by go_num, by omega, by rw [ByteArray.size_extract]; omega, HS5, by unfold Hid; rw [List.length_append, HLN.out]; rfl, HJ4, ?_⟩
            unfold Hid
            rw [← HPP.out, HE.out, List.append_assoc]
            rfl
          case measure => simp [intOf]; omega
        · obtain rfl : f = 0 := by omega
          have HE : Hid (cutP z 0 rest = [rest]) := by unfold Hid; simp only [cutP]; rw [if_neg hr]
          obtain ⟨fn, tmps, assign, body, hy, hR⟩ := HY.out pre rest wr HJP.out (by rw [HLN.out]; omega)
          gi_wp2
          refine hR.mono ?_
          rintro e W4 ⟨rfl, hJ4, hk4⟩
          gi_wp2
          go_end0
          refine ⟨⟨_, rfl⟩, ?_⟩
          rw [← HPP.out, HE.out]
          first | exact ⟨hJ4, _, by omega, (HST.out.keeps hk4).knife⟩ | exact ⟨_, rfl, hJ4, _, by omega, (HST.out.keeps hk4).knife⟩
end Go.Proofs.Ytlalbfpdelfnfaa
