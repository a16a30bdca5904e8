/-
  What the steps of a disk do.
  Go's library: a clone of bytes.
  Bytes are appended to a tape.
-/
import Derived.Test.YtiefhmbpaoecfaaG02
import Derived.Deep.RegionLaw
import Derived.Deep.RegionLawGrows

namespace Go.Proofs.Ytiefhmbpaoecfaa
open Go.RowKit Dm

theorem infoSec : (Try.prog.info? tSec).map (·.size) = some 256 := by kernel_rfl

set_option maxRecDepth 100000 in
/-- A sector is written whole. -/
theorem write1 (q m bn bx : Nat) (n : Int) (b : List UInt8) (f : Int → List UInt8) (w : World) (hq : w.cell? ⟨q, 0, none⟩ = some (.map (some m))) (hn : w.heap[bn]? = some (.cells #[.int .i64 n] 3 (0, 0)))
    (hx : w.heap[bx]? = some (.cells (b.map bval).toArray tSec (0, 0))) (hl : b.length = 256) (hm : SecMap w.heap m f) :
    Calls Try.prog 45 #[.pointer (some ⟨q, 0, none⟩), .pointer (some ⟨bx, 0, none⟩), .pointer (some ⟨bn, 0, none⟩)] w fun e w' =>
      e = .returned (.tuple #[]) ∧ SecMap w'.heap m (upd f n b) ∧ Moves (fun i => i = m) w w' := by
  have c1 : w.cell? ⟨bn, 0, none⟩ = some (.int .i64 n) := by rw [cell_of_row _ _ _ _ _ _ hn]; rfl
  obtain ⟨o, hrun, hm'⟩ := run_put_sec (w := w.drew) (h := hm) n b hl
  have hld : (Instr.loadAt tSec (.pointer (some ⟨bx, 0, none⟩))).run Try.prog w.drew = .ok (.agg (b.map bval).toArray) w.drew :=
    run_loadAt_row (w := w.drew) hx Try.underlying86 rfl (by rw [infoSec]; simp [hl])
  have HM := Lib.hid hm'
  have HR := Lib.hid hrun
  have HL := Lib.hid hld
  clear hm' hrun hld hn hx hm hl
  go_enter Try.func45, Try.ntmps45
  go_wp2
  refine wp_region_tail 6 (by kernel_rfl) (by kernel_rfl) ?_
  simp only [List.take_succ_cons, List.take_zero, List.drop_succ_cons, List.drop_zero]
  still_step
  still_step
  still_step
  still_step
  still_step
  refine wpStill_load_run rfl tSec (.tmp 1) rfl _ HL.out ?_
  refine wpStill_nil ?_
  refine wpList_mapUpdate_run rfl tMap (.tmp 7) (.tmp 8) (.tmp 9) rfl _ HR.out ?_
  simp only [wpList, Act.put]
  go_end0
  exact ⟨rfl, HM.out, ⟨rfl, rfl, rfl, by simp only [World.putObj_size]; exact Nat.le_refl _, fun k _ hk => World.putObj_heap_other hk⟩⟩

set_option maxRecDepth 100000 in
set_option maxHeartbeats 1000000 in
theorem cut1_a (q bt bn t n b o len cap : Nat) (w : World) (ht : t < 4) (hlen : len ≤ cap) (hcap : cap ≤ 9223372036854775807) (hc : len < n) (hn : n ≤ 1048576)
    (hbt : w.cell? ⟨bt, 0, none⟩ = some (.int .i64 t)) (hbn : w.cell? ⟨bn, 0, none⟩ = some (.int .i64 n)) (hq : w.cell? ⟨q, 1 + t, none⟩ = some (.slice (some ⟨b, o, none⟩) len cap)) (hf : w.frozen? ⟨q, 1 + t, none⟩ = false) :
    Calls Try.prog 50 #[.pointer (some ⟨q, 0, none⟩), .pointer (some ⟨bt, 0, none⟩), .pointer (some ⟨bn, 0, none⟩)] w fun e w' =>
      e = .returned (.tuple #[]) ∧ (w.setCell ⟨q, 1 + t, none⟩ (.slice (some ⟨b, o, none⟩) len cap)).drew = w' := by
  have hz : (0 : Int) ≤ (t : Int) := by omega
  have hz4 : (t : Int) < 4 := by omega
  go_enter Try.func50, Try.ntmps50
  go_wp2
  refine wp_region_tail 21 (by kernel_rfl) (by kernel_rfl) ?_
  simp only [List.take_succ_cons, List.take_zero, List.drop_succ_cons, List.drop_zero]
  repeat still_step
  refine wpStill_nil ?_
  refine wpList_plain rfl fun K hK => ?_
  go_simp
  refine hK _ _ ?_
  simp only [wpList]
  go_end0
  exact ⟨rfl, rfl⟩

set_option maxRecDepth 100000 in
set_option maxHeartbeats 1000000 in
theorem cut1_b (q bt bn t n b o len cap : Nat) (w : World) (ht : t < 4) (hlen : len ≤ cap) (hcap : cap ≤ 9223372036854775807) (hc : n ≤ len) (hn : n ≤ 1048576)
    (hbt : w.cell? ⟨bt, 0, none⟩ = some (.int .i64 t)) (hbn : w.cell? ⟨bn, 0, none⟩ = some (.int .i64 n)) (hq : w.cell? ⟨q, 1 + t, none⟩ = some (.slice (some ⟨b, o, none⟩) len cap)) (hf : w.frozen? ⟨q, 1 + t, none⟩ = false) :
    Calls Try.prog 50 #[.pointer (some ⟨q, 0, none⟩), .pointer (some ⟨bt, 0, none⟩), .pointer (some ⟨bn, 0, none⟩)] w fun e w' =>
      e = .returned (.tuple #[]) ∧ (w.setCell ⟨q, 1 + t, none⟩ (.slice (some ⟨b, o, none⟩) n cap)).drew = w' := by
  have hz : (0 : Int) ≤ (t : Int) := by omega
  have hz4 : (t : Int) < 4 := by omega
  have hc2 : ¬ len < n := by omega
  have hc3 : n ≤ cap := by omega
  have hc4 : (n : Int) ≤ (cap : Int) := by omega
  go_enter Try.func50, Try.ntmps50
  go_wp2
  refine wp_region_tail 21 (by kernel_rfl) (by kernel_rfl) ?_
  simp only [List.take_succ_cons, List.take_zero, List.drop_succ_cons, List.drop_zero]
  repeat still_step
  refine wpStill_nil ?_
  refine wpList_plain rfl fun K hK => ?_
  go_simp
  refine hK _ _ ?_
  simp only [wpList]
  go_end0
  exact ⟨rfl, rfl⟩

set_option maxRecDepth 100000 in
set_option maxHeartbeats 1000000 in
theorem cut1_n (q bt bn t n : Nat) (w : World) (ht : t < 4)  (hn : n ≤ 1048576)
    (hbt : w.cell? ⟨bt, 0, none⟩ = some (.int .i64 t)) (hbn : w.cell? ⟨bn, 0, none⟩ = some (.int .i64 n)) (hq : w.cell? ⟨q, 1 + t, none⟩ = some (.slice none 0 0)) (hf : w.frozen? ⟨q, 1 + t, none⟩ = false) :
    Calls Try.prog 50 #[.pointer (some ⟨q, 0, none⟩), .pointer (some ⟨bt, 0, none⟩), .pointer (some ⟨bn, 0, none⟩)] w fun e w' =>
      e = .returned (.tuple #[]) ∧ (w.setCell ⟨q, 1 + t, none⟩ (.slice none 0 0)).drew = w' := by
  have hz : (0 : Int) ≤ (t : Int) := by omega
  have hz4 : (t : Int) < 4 := by omega
  rcases Nat.eq_zero_or_pos n with rfl | hpos
  all_goals
    go_enter Try.func50, Try.ntmps50
    go_wp2
    refine wp_region_tail 21 (by kernel_rfl) (by kernel_rfl) ?_
    simp only [List.take_succ_cons, List.take_zero, List.drop_succ_cons, List.drop_zero]
    repeat still_step
    refine wpStill_nil ?_
    refine wpList_plain rfl fun K hK => ?_
    go_simp
    refine hK _ _ ?_
    simp only [wpList]
    go_end0
    exact ⟨rfl, rfl⟩

/-- A tape is cut. -/
theorem cut2 (v : Value) (k : Int) (w : World) : Calls Try.prog 51 #[v, .int .i64 k] w fun e w' => e = .returned (.tuple #[]) ∧ w = w' := by
  go_enter Try.func51, Try.ntmps51
  go_wp2
  go_end0
  exact ⟨rfl, rfl⟩

end Go.Proofs.Ytiefhmbpaoecfaa

namespace Go.Proofs.Ytiefhmbpaoecfaa
open Go.RowKit Dm

theorem infoByte : (Try.prog.info? tByte).map (fun i => (i.zero, i.size, i.bytes)) = some (some (.int .u8 0), 1, 1) := by kernel_rfl
theorem bval_one (b : UInt8) : (bval b).oneCell' = true := rfl

/-- A call that hands back new bytes. -/
def GivesBytes (w : World) (l : List UInt8) (e : Ending) (w' : World) : Prop := ∃ v', e = .returned v' ∧ Below w.heap.size w w' ∧ BytesAt w'.heap (fun k => w.heap.size ≤ k) v' l

/-- A row that the call owns reads as bytes. -/
theorem bytes_of_owns {w : World} {base : Nat} {v : Value} {n : Nat} {l : List UInt8} (h : w.ownsRow base tByte 1 v n (l.map bval)) (hn : n = l.length) : BytesAt w.heap (fun k => base ≤ k) v l := by
  subst hn
  obtain ⟨_, h⟩ := h
  rcases h with ⟨rfl, h⟩ | ⟨g, cap, cur, rfl, hg, hh, h1, h2, h3, h4⟩
  · exact Or.inl ⟨rfl, by simpa using h⟩
  · refine Or.inr ⟨g, 0, cap, cur, tByte, (0, 0), rfl, h1, by unfold maxLen at h2; omega, hg, hh, fun i x hi => ?_⟩
    have hlt : i < l.length := (List.getElem?_eq_some_iff.1 hi).1
    have e : (cur.toList.take (l.length * 1))[i]? = some (bval x) := by rw [h4]; simp [hi]
    rw [List.getElem?_take, if_pos (by omega)] at e
    rw [Nat.zero_add]
    simpa using e

theorem clone_nil (w : World) : Calls Try.prog 43 #[.slice none 0 0] w fun e w' => e = .returned (.slice none 0 0) ∧ w = w' := by
  have h1 := Lib.run_eql_slice_nil (P := Try.prog)
  go_enter Try.func43, Try.ntmps43
  go_wp2
  go_ret
  exact ⟨rfl, rfl⟩

set_option maxRecDepth 100000 in
theorem clone_some (b o cap : Nat) (l : List UInt8) (w : World) (hl : l.length ≤ 1099511627776) (hc : ∀ i x, l[i]? = some x → w.cell? ⟨b, o + i, none⟩ = some (bval x)) :
    Calls Try.prog 43 #[.slice (some ⟨b, o, none⟩) l.length cap] w (GivesBytes w l) := by
  obtain ⟨i0, hi, hz0, hz1, hz2⟩ := info_parts infoByte
  have hown : (w.alloc (.cells #[] tByte)).ownsRow w.heap.size tByte 1 (.slice (some ⟨w.heap.size, 0, none⟩) 0 0) 0 [] :=
    ⟨rfl, Or.inr ⟨w.heap.size, 0, #[], rfl, Nat.le_refl _, heap_alloc_last _ _, Nat.le_refl _, Nat.zero_le _, rfl, rfl⟩⟩
  have HC := Lib.hid hc
  have HO := Lib.hid hown
  have HI := Lib.hid (And.intro hi (And.intro hz0 (And.intro hz1 hz2)))
  clear hc hown hi hz0 hz1 hz2
  have s2 : ∀ j u, (l.map bval)[j]? = some u → (w.alloc (.cells #[] tByte)).cell? ((⟨b, o, none⟩ : Addr).add j) = some u := by
    intro j u hj
    obtain ⟨x, hx, rfl⟩ : ∃ x, l[j]? = some x ∧ bval x = u := by simpa using hj
    have hadd : (⟨b, o, none⟩ : Addr).add j = ⟨b, o + j, none⟩ := by unfold Addr.add; split <;> simp_all
    have hc := HC.out j x hx
    rw [hadd, World.cell?_alloc_past _ _ _ (block_lt_of_cell hc)]
    exact hc
  have s3 : ∀ u ∈ l.map bval, u.oneCell' = true := by
    intro u hu
    obtain ⟨x, _, rfl⟩ := List.mem_map.1 hu
    rfl
  have HS := Lib.hid (And.intro s2 s3)
  clear s2 s3
  have hnil := fun (w : World) (a : Option Addr) (n c : Nat) => Lib.run_eql_slice_nil (P := Try.prog) w 36 tByte a n c 0 0 Try.underlying36
  go_enter Try.func43, Try.ntmps43
  go_wp2_with (at_builtin; refine wpList_append_own _ rfl (.tmp 5) (.tmp 6) 36 rfl w.heap.size tByte i0 (.int .u8 0) 1 1 Try.underlying36 HI.out.1 HI.out.2.1 HI.out.2.2.1 HI.out.2.2.2 rfl (by decide) _ 0 [] rfl HO.out ⟨b, o, none⟩ l.length cap (l.map bval) rfl (by simp) HS.out.1 HS.out.2 (by unfold maxLen; omega) (by omega) (by simp) ?_; intro v' w1 hown1 hgrow _)
  go_ret
  refine ⟨_, rfl, (((Below.refl _ _).alloc (Nat.le_refl _) _).grown hgrow (by simp) (fun k e => by cases e; exact Nat.le_refl _)), ?_⟩
  rw [List.nil_append] at hown1
  exact bytes_of_owns hown1 (by simp)

end Go.Proofs.Ytiefhmbpaoecfaa

namespace Go.Proofs.Ytiefhmbpaoecfaa
open Go.RowKit Dm

theorem own_pos {w : World} {base e size n : Nat} {v : Value} {xs : List Value} (h : w.ownsRow base e size v n xs) (hn : 0 < n) : ∃ g cap, v = .slice (some ⟨g, 0, none⟩) n cap := by
  rcases h.2 with ⟨_, h0⟩ | ⟨g, cap, cur, hv, _⟩
  · omega
  · exact ⟨g, cap, hv⟩

/-- What an append leaves: new bytes in the tape's cell. -/
def TapeNow (w : World) (q t : Nat) (l : List UInt8) (w' : World) : Prop :=
  ∃ v' w1, Below w.heap.size w w1 ∧ BytesAt w1.heap (fun k => w.heap.size ≤ k) v' l ∧ w' = w1.setCell ⟨q, 1 + t, none⟩ v'

set_option maxRecDepth 100000 in
set_option maxHeartbeats 2000000 in
theorem appended1_some (q bt bx t b o len cap b2 o2 cap2 : Nat) (l l2 : List UInt8) (w : World) (ht : t < 4) (hb : len = l.length) (hcap : cap ≤ 9223372036854775807) (hlc : len ≤ cap) (h1 : l.length + l2.length ≤ 1099511627776) (h2 : 0 < l2.length)
    (hbt : w.cell? ⟨bt, 0, none⟩ = some (.int .i64 t)) (hbx : w.cell? ⟨bx, 0, none⟩ = some (.slice (some ⟨b2, o2, none⟩) l2.length cap2)) (hq : w.cell? ⟨q, 1 + t, none⟩ = some (.slice (some ⟨b, o, none⟩) len cap)) (hf : w.frozen? ⟨q, 1 + t, none⟩ = false)
    (hc : ∀ i x, l[i]? = some x → w.cell? ⟨b, o + i, none⟩ = some (bval x)) (hc2 : ∀ i x, l2[i]? = some x → w.cell? ⟨b2, o2 + i, none⟩ = some (bval x)) :
    Calls Try.prog 66 #[.pointer (some ⟨q, 0, none⟩), .pointer (some ⟨bt, 0, none⟩), .pointer (some ⟨bx, 0, none⟩)] w fun e w' => e = .returned (.tuple #[]) ∧ TapeNow w q t (l ++ l2) w' := by
  obtain ⟨i0, hi, hz0, hz1, hz2⟩ := info_parts infoByte
  have HI := Lib.hid (And.intro hi (And.intro hz0 (And.intro hz1 hz2)))
  have HC := Lib.hid (And.intro hc hc2)
  have HB := Lib.hid hb
  clear hi hz0 hz1 hz2 hc hc2 hb
  have hz : (0 : Int) ≤ (t : Int) := by omega
  have hz4 : (t : Int) < 4 := by omega
  go_enter Try.func66, Try.ntmps66
  go_wp2
  go_quiet (fail)
  go_wp2
  have hadd : ∀ (b o j : Nat), (⟨b, o, none⟩ : Addr).add j = ⟨b, o + j, none⟩ := fun b o j => by unfold Addr.add; split <;> simp_all
  have read : ∀ (b o : Nat) (l : List UInt8), (∀ i x, l[i]? = some x → w.cell? ⟨b, o + i, none⟩ = some (bval x)) → ∀ j u, (l.map bval)[j]? = some u → w.cell? ((⟨b, o, none⟩ : Addr).add j) = some u := by
    intro b o l h j u hj
    obtain ⟨x, hx, rfl⟩ : ∃ x, l[j]? = some x ∧ bval x = u := by simpa using hj
    rw [hadd]
    exact h j x hx
  have R1 := Lib.hid (read b o l HC.out.1)
  have R2 := Lib.hid (read b2 o2 l2 HC.out.2)
  have R3 : Hid (∀ u ∈ l2.map bval, u.oneCell' = true) := fun u hu => by
    obtain ⟨x, _, rfl⟩ := List.mem_map.1 hu
    rfl
  clear read hadd
  have lt1 := block_lt_of_cell hbt
  have lt2 := block_lt_of_cell hq
  have ll : ((len : Nat) : Int) ≤ (cap : Int) := by omega
  go_region_law ((refine step_append_grows rfl (.tmp 18) (.tmp 19) 36 rfl tByte i0 (.int .u8 0) 1 1 Try.underlying36 HI.out.1 HI.out.2.1 HI.out.2.2.1 HI.out.2.2.2 rfl (by decide) (some ⟨b, o, none⟩) len len (l.map bval) rfl (fun e => by cases e) (by rw [HB.out]; simp) (fun b' e j u hj => by cases e; exact R1.out j u hj) ⟨b2, o2, none⟩ l2.length cap2 (l2.map bval) rfl (by simp) (fun j u hj => R2.out j u hj) R3.out (by omega) (by unfold maxLen; rw [HB.out]; omega) (by rw [HB.out]; omega) ?_; intro v' w1 hown1 hgrow1; obtain ⟨g1, cap1, rfl⟩ := own_pos hown1 (by omega); have k1 : w1.cell? ⟨bt, 0, none⟩ = some (.int .i64 t) := (World.cell?_of_block (w := w) (hgrow1.block bt lt1 (by simp))).trans hbt; have k2 : w1.cell? ⟨q, 1 + t, none⟩ = some (.slice (some ⟨b, o, none⟩) len cap) := (World.cell?_of_block (w := w) (hgrow1.block q lt2 (by simp))).trans hq; have k3 : w1.frozen? ⟨q, 1 + t, none⟩ = false := (World.frozen?_of_block (w := w) (hgrow1.block q lt2 (by simp))).trans hf))
  all_goals
    go_end0
    refine ⟨rfl, _, w1, ⟨hgrow1.os, hgrow1.tape, hgrow1.output, hgrow1.size, fun k hk => hgrow1.block k hk (by simp)⟩, ?_, rfl⟩
    rw [← List.map_append] at hown1
    exact bytes_of_owns hown1 (by rw [HB.out]; simp)

set_option maxRecDepth 100000 in
set_option maxHeartbeats 2000000 in
theorem appended1_nil (q bt bx t b2 o2 cap2 : Nat) (l2 : List UInt8) (w : World) (ht : t < 4) (h1 : l2.length ≤ 1099511627776) (h2 : 0 < l2.length)
    (hbt : w.cell? ⟨bt, 0, none⟩ = some (.int .i64 t)) (hbx : w.cell? ⟨bx, 0, none⟩ = some (.slice (some ⟨b2, o2, none⟩) l2.length cap2)) (hq : w.cell? ⟨q, 1 + t, none⟩ = some (.slice none 0 0)) (hf : w.frozen? ⟨q, 1 + t, none⟩ = false)
    (hc2 : ∀ i x, l2[i]? = some x → w.cell? ⟨b2, o2 + i, none⟩ = some (bval x)) :
    Calls Try.prog 66 #[.pointer (some ⟨q, 0, none⟩), .pointer (some ⟨bt, 0, none⟩), .pointer (some ⟨bx, 0, none⟩)] w fun e w' => e = .returned (.tuple #[]) ∧ TapeNow w q t l2 w' := by
  obtain ⟨i0, hi, hz0, hz1, hz2⟩ := info_parts infoByte
  have HI := Lib.hid (And.intro hi (And.intro hz0 (And.intro hz1 hz2)))
  have HC := Lib.hid hc2
  clear hi hz0 hz1 hz2 hc2
  have hz : (0 : Int) ≤ (t : Int) := by omega
  have hz4 : (t : Int) < 4 := by omega
  go_enter Try.func66, Try.ntmps66
  go_wp2
  go_quiet (fail)
  go_wp2
  have hadd : ∀ (b o j : Nat), (⟨b, o, none⟩ : Addr).add j = ⟨b, o + j, none⟩ := fun b o j => by unfold Addr.add; split <;> simp_all
  have read : ∀ (b o : Nat) (l : List UInt8), (∀ i x, l[i]? = some x → w.cell? ⟨b, o + i, none⟩ = some (bval x)) → ∀ j u, (l.map bval)[j]? = some u → w.cell? ((⟨b, o, none⟩ : Addr).add j) = some u := by
    intro b o l h j u hj
    obtain ⟨x, hx, rfl⟩ : ∃ x, l[j]? = some x ∧ bval x = u := by simpa using hj
    rw [hadd]
    exact h j x hx
  have R2 := Lib.hid (read b2 o2 l2 HC.out)
  have R3 : Hid (∀ u ∈ l2.map bval, u.oneCell' = true) := fun u hu => by
    obtain ⟨x, _, rfl⟩ := List.mem_map.1 hu
    rfl
  clear read hadd
  have lt1 := block_lt_of_cell hbt
  have lt2 := block_lt_of_cell hq
  go_region_law ((refine step_append_grows rfl (.tmp 18) (.tmp 19) 36 rfl tByte i0 (.int .u8 0) 1 1 Try.underlying36 HI.out.1 HI.out.2.1 HI.out.2.2.1 HI.out.2.2.2 rfl (by decide) none 0 0 [] rfl (fun _ => ⟨rfl, rfl⟩) rfl (fun b' e j u hj => by cases e) ⟨b2, o2, none⟩ l2.length cap2 (l2.map bval) rfl (by simp) (fun j u hj => R2.out j u hj) R3.out (by omega) (by unfold maxLen; omega) (by omega) ?_; intro v' w1 hown1 hgrow1; obtain ⟨g1, cap1, rfl⟩ := own_pos hown1 (by omega); have k1 : w1.cell? ⟨bt, 0, none⟩ = some (.int .i64 t) := (World.cell?_of_block (w := w) (hgrow1.block bt lt1 (by simp))).trans hbt; have k2 : w1.cell? ⟨q, 1 + t, none⟩ = some (.slice none 0 0) := (World.cell?_of_block (w := w) (hgrow1.block q lt2 (by simp))).trans hq; have k3 : w1.frozen? ⟨q, 1 + t, none⟩ = false := (World.frozen?_of_block (w := w) (hgrow1.block q lt2 (by simp))).trans hf))
  all_goals
    go_end0
    refine ⟨rfl, _, w1, ⟨hgrow1.os, hgrow1.tape, hgrow1.output, hgrow1.size, fun k hk => hgrow1.block k hk (by simp)⟩, ?_, rfl⟩
    have hown2 : w1.ownsRow w.heap.size tByte 1 (.slice (some ⟨g1, 0, none⟩) l2.length cap1) l2.length (l2.map bval) := by simpa using hown1
    first
      | exact bytes_of_owns hown2 rfl
      | (rw [Nat.zero_add]; exact bytes_of_owns hown2 rfl)

set_option maxRecDepth 100000 in
set_option maxHeartbeats 2000000 in
theorem appended1_none (q bt bx t len cap c2 : Nat) (ao a2 : Option Addr) (hao : (ao = none ∧ len = 0 ∧ cap = 0) ∨ ∃ b o : Nat, ao = some ⟨b, o, none⟩) (ha2 : (a2 = none ∧ c2 = 0) ∨ ∃ b o : Nat, a2 = some ⟨b, o, none⟩) (w : World) (ht : t < 4) (hcap : cap ≤ 9223372036854775807) (hlc : len ≤ cap)
    (hbt : w.cell? ⟨bt, 0, none⟩ = some (.int .i64 t)) (hbx : w.cell? ⟨bx, 0, none⟩ = some (.slice a2 0 c2)) (hq : w.cell? ⟨q, 1 + t, none⟩ = some (.slice ao len cap)) (hf : w.frozen? ⟨q, 1 + t, none⟩ = false) :
    Calls Try.prog 66 #[.pointer (some ⟨q, 0, none⟩), .pointer (some ⟨bt, 0, none⟩), .pointer (some ⟨bx, 0, none⟩)] w fun e w' => e = .returned (.tuple #[]) ∧ ∃ n, w' = (w.drewN n).setCell ⟨q, 1 + t, none⟩ (.slice ao len len) := by
  have hz : (0 : Int) ≤ (t : Int) := by omega
  have hz4 : (t : Int) < 4 := by omega
  have ll : ((len : Nat) : Int) ≤ (cap : Int) := by omega
  rcases hao with ⟨rfl, rfl, rfl⟩ | ⟨b, o, rfl⟩ <;> rcases ha2 with ⟨rfl, rfl⟩ | ⟨b2, o2, rfl⟩
  all_goals
    go_enter Try.func66, Try.ntmps66
    go_wp2
    go_quiet (fail)
    go_wp2
    go_region
    all_goals
      go_end0
      exact ⟨rfl, _, rfl⟩

/-- What an append leaves, its bytes new or in F. -/
def TapeIn (w : World) (F : Nat → Prop) (q t : Nat) (l : List UInt8) (w' : World) : Prop :=
  ∃ v' w1, Below w.heap.size w w1 ∧ BytesAt w1.heap (fun k => F k ∨ w.heap.size ≤ k) v' l ∧ w' = w1.setCell ⟨q, 1 + t, none⟩ v'

theorem BytesAt.cells {w : World} {F : Nat → Prop} {a : Option Addr} {n c : Nat} {l : List UInt8} (h : BytesAt w.heap F (.slice a n c) l) :
    n = l.length ∧ l.length ≤ c ∧ c ≤ 9223372036854775807 ∧ ((a = none ∧ n = 0 ∧ c = 0 ∧ l = []) ∨ ∃ b o : Nat, a = some ⟨b, o, none⟩ ∧ ∀ i x, l[i]? = some x → w.cell? ⟨b, o + i, none⟩ = some (bval x)) := by
  rcases h with ⟨h1, rfl⟩ | ⟨b, o, cap, cs, t, fr, h1, h2, h3, g2, g3, g4⟩
  · cases h1
    exact ⟨rfl, Nat.le_refl _, by omega, Or.inl ⟨rfl, rfl, rfl, rfl⟩⟩
  · cases h1
    exact ⟨rfl, h2, h3, Or.inr ⟨b, o, rfl, fun i x hi => (cell_of_row _ _ _ _ _ _ g3).trans (g4 i x hi)⟩⟩

/-- Bytes are appended to a tape. -/
theorem appended1 (q bt bx t : Nat) (v v2 : Value) (l l2 : List UInt8) (F : Nat → Prop) (w : World) (ht : t < 4) (h1 : l.length + l2.length ≤ 1099511627776)
    (hbt : w.cell? ⟨bt, 0, none⟩ = some (.int .i64 t)) (hbx : w.cell? ⟨bx, 0, none⟩ = some v2) (hq : w.cell? ⟨q, 1 + t, none⟩ = some v) (hf : w.frozen? ⟨q, 1 + t, none⟩ = false)
    (hv : BytesAt w.heap F v l) (hv2 : BytesAt w.heap F v2 l2) :
    Calls Try.prog 66 #[.pointer (some ⟨q, 0, none⟩), .pointer (some ⟨bt, 0, none⟩), .pointer (some ⟨bx, 0, none⟩)] w fun e w' => e = .returned (.tuple #[]) ∧ TapeIn w F q t (l ++ l2) w' := by
  obtain ⟨a, n, c, rfl⟩ : ∃ a n c, v = .slice a n c := by rcases hv with ⟨rfl, _⟩ | ⟨b, o, cap, cs, t, fr, rfl, _⟩ <;> exact ⟨_, _, _, rfl⟩
  obtain ⟨a2, n2, c2, rfl⟩ : ∃ a n c, v2 = .slice a n c := by rcases hv2 with ⟨rfl, _⟩ | ⟨b, o, cap, cs, t, fr, rfl, _⟩ <;> exact ⟨_, _, _, rfl⟩
  obtain ⟨e1, e2, e3, e4⟩ := hv.cells
  obtain ⟨k1, k2, k3, k4⟩ := hv2.cells
  have up : ∀ w', TapeNow w q t (l ++ l2) w' → TapeIn w F q t (l ++ l2) w' := fun w' ⟨v', w1, x1, x2, x3⟩ => ⟨v', w1, x1, x2.stays (fun _ _ => rfl) (fun _ => Or.inr), x3⟩
  rcases Nat.eq_zero_or_pos l2.length with h0 | h0
  · obtain rfl : l2 = [] := List.eq_nil_of_length_eq_zero h0
    obtain rfl : n2 = 0 := k1
    refine (appended1_none q bt bx t n c c2 a a2 ?_ ?_ w ht e3 (by omega) hbt hbx hq hf).mono ?_
    · rcases e4 with ⟨x1, x2, x3, _⟩ | ⟨b, o, x, _⟩
      · exact Or.inl ⟨x1, x2, x3⟩
      · exact Or.inr ⟨b, o, x⟩
    · rcases k4 with ⟨x1, x2, x3, _⟩ | ⟨b, o, x, _⟩
      · exact Or.inl ⟨x1, x3⟩
      · exact Or.inr ⟨b, o, x⟩
    · rintro e w' ⟨rfl, m, rfl⟩
      refine ⟨rfl, _, w.drewN m, ⟨rfl, rfl, rfl, Nat.le_refl _, fun _ _ => rfl⟩, ?_, rfl⟩
      rw [List.append_nil]
      rcases hv with ⟨x1, rfl⟩ | ⟨b, o, cap, cs, t, fr, x1, x2, x3, g2, g3, g4⟩
      · cases x1
        exact Or.inl ⟨rfl, rfl⟩
      · cases x1
        exact Or.inr ⟨b, o, _, cs, t, fr, rfl, Nat.le_refl _, by omega, Or.inl g2, g3, g4⟩
  · subst k1
    rcases k4 with ⟨_, x2, _⟩ | ⟨b2, o2, rfl, y⟩
    · omega
    · subst e1
      rcases e4 with ⟨rfl, x2, rfl, rfl⟩ | ⟨b, o, rfl, y1⟩
      · refine (appended1_nil q bt bx t b2 o2 c2 l2 w ht (by omega) h0 hbt hbx hq hf y).mono ?_
        rintro e w' ⟨rfl, h⟩
        exact ⟨rfl, up _ h⟩
      · refine (appended1_some q bt bx t b o _ c b2 o2 c2 l l2 w ht rfl e3 e2 h1 h0 hbt hbx hq hf y1 y).mono ?_
        rintro e w' ⟨rfl, h⟩
        exact ⟨rfl, up _ h⟩

end Go.Proofs.Ytiefhmbpaoecfaa
