/-
  Layer 18 (mp3): a frame's bytes by the reference, walked: a row with zeros behind it. No condition.
-/
import Derived.Test.YtfjfccomcmmfoaaJoin
import Derived.Lib.AppendZerosOnto
import Derived.Deep.OwnRows
namespace Go.Proofs.Ytfjfccomcmmfoaa
open Go.RowKit
set_option linter.unusedVariables false

section
variable {P : Program}
/-- Zeros behind a row that has no room for them: a new row. -/
theorem wpList_append_zeros {ops : Array Oper} {rest : List Oper} {o : Oper} {a : Act} {w : World} {Q : Exit → Act → World → Prop} (hgd : o.guard = none) (s x : Operand) (t tn : TypeId)
    (ho : o.op = .call { callee := .builtin .append, args := #[s, x], argTypes := #[t, tn] })
    (e : TypeId) (i : TypeInfo) (kq kn : IntKind) (ht : P.underlying t = some (.slice e)) (htn : P.underlying tn = some (.int kn)) (hi : P.info? e = some i) (hz : i.zero = some (.int .u8 0)) (hsize : i.size = 1) (hby : i.bytes = 1)
    (ad : Addr) (n c k : Nat) (xs : List Value) (hs : a.eval s = .slice (some ad) n c) (hl : xs.length = n) (hc : ∀ j u, xs[j]? = some u → w.cell? (ad.add j) = some u) (hx : a.eval x = .int kq (k : Int)) (hk : 0 < k) (hroom : c < n + k) (hb : n + k ≤ 1000000000)
    (h : ∀ cap w', w'.ownsRow w.heap.size e 1 (.slice (some ⟨w.heap.size, 0, none⟩) (n + k) cap) (n + k) (xs ++ List.replicate k (.int .u8 0)) → Below w.heap.size w w' → wpList P ops Q rest (a.put o.dst (.slice (some ⟨w.heap.size, 0, none⟩) (n + k) cap)) w') : wpList P ops Q (o :: rest) a w :=
  wpList_plain hgd fun K hK => by
    have hold : (Builtin.firstCells i.size n (.slice (some ad) n c)).run P w.drew = .ok xs.toArray w.drew :=
      run_firstCells_some w.drew i.size n ad n c xs (by rw [hsize, hl, Nat.mul_one]) (fun j u hj => hc j u hj)
    have hm : (n + k) * i.bytes ≤ 140737488355328 := by rw [hby]; omega
    have hr := Lib.run_append_grow_zeros (P := P) w t tn o.type e i (.int .u8 0) kq kn ht htn hi hz (some ad) n c xs hold k hk (by rw [hsize]; decide) hroom (by omega) (by rw [hby]; omega) (growslice_fits hroom hm)
    unfold Oper.wp execOp
    simp only [ho, resolve, invoke, builtin, Sem.run_bind, Sem.run_pure, Result.andThen_ok, List.map_toArray, List.map_cons, List.map_nil, hs, hx, hr]
    refine hK _ _ (h _ _ ⟨by simp [hl], .inr ⟨w.heap.size, _, _, rfl, Nat.le_refl _, heap_alloc_new w.drew _, grownCap_ge w (n + k) c e, grownCap_le_maxLen w (n + k) c e (by unfold maxLen; omega), ?_, ?_⟩⟩ ((Below.refl _ _).drew.alloc (Nat.le_refl _) _))
    · have hge := grownCap_ge w (n + k) c e
      have hz1 : (Value.int IntKind.u8 0).cells.size = 1 := rfl
      simp only [Array.size_append, List.size_toArray, size_zeroCells, hl, hz1]
      omega
    · have e1 : (Builtin.zeroCells (Value.int IntKind.u8 0).cells k).toList = List.replicate k (.int .u8 0) := by
        apply List.ext_getElem
        · simp [size_zeroCells, Value.cells]
        · intro j h1 h2
          simp [Builtin.zeroCells, Value.cells, Nat.mod_one]
      simp only [Array.toList_append, e1]
      rw [Nat.mul_one, List.take_append_of_le_length (by simp [hl])]
      exact List.take_of_length_le (by simp [hl])
end

theorem Try.infoU : (Try.prog.info? 5).map (fun i => (i.zero, i.size, i.bytes)) = some (some (.int .u8 0), 1, 1) := by kernel_rfl

def hdA (b c : UInt8) : Array Value := #[.int .u8 255, .int .u8 b.toNat, .int .u8 c.toNat, .int .u8 0]
theorem hd_cell (b c : UInt8) {wr : World} {g : Nat} (hg : wr.heap[g]? = some (.cells (hdA b c) 5 (0, 0))) (j : Nat) (u : Value) (hu : ((hd4 b c).map fun x => Value.int .u8 (x.toNat : Int))[j]? = some u) : wr.cell? ((⟨g, 0, none⟩ : Addr).add j) = some u := by
  rw [Addr.add_lit]
  show wr.cell? ⟨g, 0 + j, none⟩ = some u
  have e : hdA b c = ((hd4 b c).map fun x => Value.int .u8 (x.toNat : Int)).toArray := rfl
  rw [cell_of_row wr g _ _ _ _ hg, Nat.zero_add, ← hu, e, List.getElem?_toArray]
theorem hd_string (b c : UInt8) {wr : World} {g : Nat} (hg : wr.heap[g]? = some (.cells (hdA b c) 5 (0, 0))) : (convert 45 9 (.slice (some ⟨g, 0, none⟩) 4 4)).run Try.prog wr = .ok (.string ⟨(hd4 b c).toArray⟩) wr :=
  run_convert_bytes_back (P := Try.prog) wr 45 9 5 ⟨g, 0, none⟩ 4 (hd4 b c) Try.underlying45 Try.underlying5 Try.underlying9 (fun j hj => hd_cell b c hg j _ (by simp [List.getElem?_eq_getElem hj]))

set_option maxRecDepth 100000 in
theorem refFrame_any (b c : UInt8) (w : World) :
    Calls Try.prog 15 #[.int .u8 b.toNat, .int .u8 c.toNat] w fun e w' => e = .returned (.string ⟨(frB b c).toArray⟩) ∧ Below w.heap.size w w' := by
  have hcv := hd_string b c (heap_alloc_new w (.cells (hdA b c) 5))
  unfold hdA at hcv
  obtain ⟨x, hx⟩ : ∃ x : ByteArray, ⟨(hd4 b c).toArray⟩ = x := ⟨_, rfl⟩
  have hxd : x.data.toList = hd4 b c := by rw [← hx]
  have h9 := (heads_both x (by rw [← hx]; show 4 ≤ maxLen; decide)).2
  rw [hxd] at h9
  have h12 := fun w => refSize_any (hV (hd4 b c)) (hL (hd4 b c)) (hR (hd4 b c)) (hQ (hd4 b c)) (hP (hd4 b c)) w
  change ∀ w, Calls Try.prog 12 #[hF (hd4 b c)] w fun e w' => e = .returned (.int .i64 (nS (hd4 b c))) ∧ Below w.heap.size w w' at h12
  rw [hx] at hcv
  have hfr : Hid (frB b c = if nS (hd4 b c) < 4 then [] else hd4 b c ++ List.replicate ((nS (hd4 b c)).toNat - 4) 0) := rfl
  have hfar := nS_far (hd4 b c)
  obtain ⟨z, hz⟩ : ∃ z, nS (hd4 b c) = z := ⟨_, rfl⟩
  obtain ⟨f, hf⟩ : ∃ f, hF (hd4 b c) = f := ⟨_, rfl⟩
  rw [hz] at h12 hfr hfar
  rw [hf] at h12 h9
  have H9 := Lib.hid h9
  have H12 := Lib.hid h12
  have HF := Lib.hid hfar
  clear h9 h12 hz hf hx hxd hfar
  by_cases hz4 : z < 4
  · rw [hfr.out, if_pos hz4]
    go_enter Try.func15, Try.ntmps15
    go_wp2_with (first
      | (go_at_call 9; (with_reducible refine (H9.out _).mono ?_); rintro e w1 ⟨rfl, hb1⟩; have HB1 := Lib.hid hb1; clear hb1)
      | (go_at_call 12; (with_reducible refine (H12.out _).mono ?_); rintro e w2 ⟨rfl, hb2⟩; have HB2 := Lib.hid hb2; clear hb2))
    go_ret
    have h1 := below_then ((Below.refl _ _).alloc (Nat.le_refl _) _) (Nat.le_refl _) HB1.out
    exact ⟨rfl, h1.trans (HB2.out.mono h1.size)⟩
  · obtain ⟨h12a, h12b⟩ := HF.out (by omega)
    obtain ⟨k, rfl⟩ : ∃ k : Nat, z = (k : Int) + 4 := ⟨(z - 4).toNat, by omega⟩
    have hk : 0 < k := by omega
    have hkb : 4 + k ≤ 1000000000 := by omega
    have HFR : Hid ((frB b c).map (fun x => Value.int .u8 (x.toNat : Int)) = ((hd4 b c).map fun x => Value.int .u8 (x.toNat : Int)) ++ List.replicate k (.int .u8 0)) := by
      unfold Hid
      rw [hfr.out, if_neg hz4, List.map_append, List.map_replicate]
      have : ((k : Int) + 4).toNat - 4 = k := by omega
      rw [this]
      rfl
    have HFL : Hid ((frB b c).length = 4 + k) := by
      unfold Hid
      rw [hfr.out, if_neg hz4, List.length_append, List.length_replicate]
      have : ((k : Int) + 4).toNat - 4 = k := by omega
      rw [this]
      rfl
    obtain ⟨i, hi, hz0, hz1, hz2⟩ := info_parts Try.infoU
    have HI := Lib.hid hi
    have HZ := Lib.hid hz0
    have HZ1 := Lib.hid hz1
    have HZ2 := Lib.hid hz2
    have HKB := Lib.hid hkb
    have HG := heap_alloc_new w (.cells (hdA b c) 5)
    have HGG := Lib.hid HG
    clear hi hz0 hz1 hz2 HG hkb hfr HF
    have hb4 : (k : Int) ≤ 2000 := by omega
    go_enter Try.func15, Try.ntmps15
    go_wp2_with (first
      | (go_at_call 9; (with_reducible refine (H9.out _).mono ?_); rintro e w1 ⟨rfl, hb1⟩; have HB1 := Lib.hid hb1; clear hb1)
      | (go_at_call 12; (with_reducible refine (H12.out _).mono ?_); rintro e w2 ⟨rfl, hb2⟩; have hg2 := ((HB1.out.trans (hb2.mono HB1.out.size)).block w.heap.size (by simp)).trans HGG.out; have HC2 := Lib.hid (fun j u hu => hd_cell b c hg2 j u hu); have HB2 := Lib.hid hb2; clear hb2 hg2)
      | (at_builtin; refine wpList_append_zeros rfl (.tmp 16) (.tmp 18) 45 3 rfl 5 i .i64 .i64 Try.underlying45 Try.underlying3 HI.out HZ.out HZ1.out HZ2.out ⟨w.heap.size, 0, none⟩ 4 4 k ((hd4 b c).map fun x => Value.int .u8 (x.toNat : Int)) rfl rfl HC2.out rfl hk (by omega) HKB.out ?_; intro cap3 w3 hown hb3; rw [← HFR.out] at hown; have hcv3 := own_string (P := Try.prog) 45 5 9 Try.underlying45 Try.underlying5 Try.underlying9 w3 _ (4 + k) _ (frB b c) HFL.out hown; have HB3 := Lib.hid hb3; clear hb3 hown))
    go_ret
    have h1 := below_then ((Below.refl _ _).alloc (Nat.le_refl _) _) (Nat.le_refl _) HB1.out
    have h2 := h1.trans (HB2.out.mono h1.size)
    exact ⟨rfl, h2.trans (HB3.out.mono h2.size)⟩
end Go.Proofs.Ytfjfccomcmmfoaa
