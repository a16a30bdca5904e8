/-
  What the steps of a disk do.
  Go's library: a clone of bytes.
  Bytes are appended to a tape.
  Appends in part.
  A sector is written in part.
  What stands, copied.
  Go's library: a clone of steps.
-/
import Derived.Test.YtgffifleflkjoaaGreatG02
import Derived.Test.YtgffifleflkjoaaGreatG03
import Derived.Deep.RegionLaw
import Derived.Deep.RegionLawGrows
import Derived.Deep.RegionWith
import Derived.Laws.CopyOwn
import Derived.Shelf.SlMaps.Clone

namespace Go.Proofs.YtgffifleflkjoaaGreat
open Go.RowKit Dm

theorem infoSec : (Tryz.prog.info? tSec).map (·.size) = some 256 := by kernel_rfl

set_option maxRecDepth 100000 in
set_option maxHeartbeats 1000000 in
theorem cut1_a (q bt bn t n b o len cap : Nat) (w : World) (ht : t < 4) (hlen : len ≤ cap) (hcap : cap ≤ 9223372036854775807) (hc : len < n) (hn : n ≤ 1048576)
    (hbt : w.cell? ⟨bt, 0, none⟩ = some (.int .i64 t)) (hbn : w.cell? ⟨bn, 0, none⟩ = some (.int .i64 n)) (hq : w.cell? ⟨q, 1 + t, none⟩ = some (.slice (some ⟨b, o, none⟩) len cap)) (hf : w.frozen? ⟨q, 1 + t, none⟩ = false) :
    Calls Tryz.prog 122 #[.pointer (some ⟨q, 0, none⟩), .pointer (some ⟨bt, 0, none⟩), .pointer (some ⟨bn, 0, none⟩)] w fun e w' =>
      e = .returned (.tuple #[]) ∧ (w.setCell ⟨q, 1 + t, none⟩ (.slice (some ⟨b, o, none⟩) len cap)).drew = w' := by
  have hz : (0 : Int) ≤ (t : Int) := by omega
  have hz4 : (t : Int) < 4 := by omega
  go_enter Tryz.func122, Tryz.ntmps122
  go_wp2
  refine wp_region_tail 21 (by kernel_rfl) (by kernel_rfl) ?_
  simp only [List.take_succ_cons, List.take_zero, List.drop_succ_cons, List.drop_zero]
  repeat still_step
  refine wpStill_nil ?_
  refine wpList_plain rfl fun K hK => ?_
  go_simp
  refine hK _ _ ?_
  simp only [wpList]
  go_end0
  exact ⟨rfl, rfl⟩

set_option maxRecDepth 100000 in
set_option maxHeartbeats 1000000 in
theorem cut1_b (q bt bn t n b o len cap : Nat) (w : World) (ht : t < 4) (hlen : len ≤ cap) (hcap : cap ≤ 9223372036854775807) (hc : n ≤ len) (hn : n ≤ 1048576)
    (hbt : w.cell? ⟨bt, 0, none⟩ = some (.int .i64 t)) (hbn : w.cell? ⟨bn, 0, none⟩ = some (.int .i64 n)) (hq : w.cell? ⟨q, 1 + t, none⟩ = some (.slice (some ⟨b, o, none⟩) len cap)) (hf : w.frozen? ⟨q, 1 + t, none⟩ = false) :
    Calls Tryz.prog 122 #[.pointer (some ⟨q, 0, none⟩), .pointer (some ⟨bt, 0, none⟩), .pointer (some ⟨bn, 0, none⟩)] w fun e w' =>
      e = .returned (.tuple #[]) ∧ (w.setCell ⟨q, 1 + t, none⟩ (.slice (some ⟨b, o, none⟩) n cap)).drew = w' := by
  have hz : (0 : Int) ≤ (t : Int) := by omega
  have hz4 : (t : Int) < 4 := by omega
  have hc2 : ¬ len < n := by omega
  have hc3 : n ≤ cap := by omega
  have hc4 : (n : Int) ≤ (cap : Int) := by omega
  go_enter Tryz.func122, Tryz.ntmps122
  go_wp2
  refine wp_region_tail 21 (by kernel_rfl) (by kernel_rfl) ?_
  simp only [List.take_succ_cons, List.take_zero, List.drop_succ_cons, List.drop_zero]
  repeat still_step
  refine wpStill_nil ?_
  refine wpList_plain rfl fun K hK => ?_
  go_simp
  refine hK _ _ ?_
  simp only [wpList]
  go_end0
  exact ⟨rfl, rfl⟩

set_option maxRecDepth 100000 in
set_option maxHeartbeats 1000000 in
theorem cut1_n (q bt bn t n : Nat) (w : World) (ht : t < 4)  (hn : n ≤ 1048576)
    (hbt : w.cell? ⟨bt, 0, none⟩ = some (.int .i64 t)) (hbn : w.cell? ⟨bn, 0, none⟩ = some (.int .i64 n)) (hq : w.cell? ⟨q, 1 + t, none⟩ = some (.slice none 0 0)) (hf : w.frozen? ⟨q, 1 + t, none⟩ = false) :
    Calls Tryz.prog 122 #[.pointer (some ⟨q, 0, none⟩), .pointer (some ⟨bt, 0, none⟩), .pointer (some ⟨bn, 0, none⟩)] w fun e w' =>
      e = .returned (.tuple #[]) ∧ (w.setCell ⟨q, 1 + t, none⟩ (.slice none 0 0)).drew = w' := by
  have hz : (0 : Int) ≤ (t : Int) := by omega
  have hz4 : (t : Int) < 4 := by omega
  rcases Nat.eq_zero_or_pos n with rfl | hpos
  all_goals
    go_enter Tryz.func122, Tryz.ntmps122
    go_wp2
    refine wp_region_tail 21 (by kernel_rfl) (by kernel_rfl) ?_
    simp only [List.take_succ_cons, List.take_zero, List.drop_succ_cons, List.drop_zero]
    repeat still_step
    refine wpStill_nil ?_
    refine wpList_plain rfl fun K hK => ?_
    go_simp
    refine hK _ _ ?_
    simp only [wpList]
    go_end0
    exact ⟨rfl, rfl⟩

/-- A tape is cut. -/
theorem cut2 (v : Value) (k : Int) (w : World) : Calls Tryz.prog 123 #[v, .int .i64 k] w fun e w' => e = .returned (.tuple #[]) ∧ w = w' := by
  go_enter Tryz.func123, Tryz.ntmps123
  go_wp2
  go_end0
  exact ⟨rfl, rfl⟩

end Go.Proofs.YtgffifleflkjoaaGreat

namespace Go.Proofs.YtgffifleflkjoaaGreat
open Go.RowKit Dm

theorem infoByte : (Tryz.prog.info? tByte).map (fun i => (i.zero, i.size, i.bytes)) = some (some (.int .u8 0), 1, 1) := by kernel_rfl
theorem bval_one (b : UInt8) : (bval b).oneCell' = true := rfl

/-- A call that hands back new bytes. -/
def GivesBytes (w : World) (l : List UInt8) (e : Ending) (w' : World) : Prop := ∃ v', e = .returned v' ∧ Below w.heap.size w w' ∧ BytesAt w'.heap (fun k => w.heap.size ≤ k) v' l

/-- A row that the call owns reads as bytes. -/
theorem bytes_of_owns {w : World} {base : Nat} {v : Value} {n : Nat} {l : List UInt8} (h : w.ownsRow base tByte 1 v n (l.map bval)) (hn : n = l.length) : BytesAt w.heap (fun k => base ≤ k) v l := by
  subst hn
  obtain ⟨_, h⟩ := h
  rcases h with ⟨rfl, h⟩ | ⟨g, cap, cur, rfl, hg, hh, h1, h2, h3, h4⟩
  · exact Or.inl ⟨rfl, by simpa using h⟩
  · refine Or.inr ⟨g, 0, cap, cur, tByte, (0, 0), rfl, h1, by unfold maxLen at h2; omega, hg, hh, fun i x hi => ?_⟩
    have hlt : i < l.length := (List.getElem?_eq_some_iff.1 hi).1
    have e : (cur.toList.take (l.length * 1))[i]? = some (bval x) := by rw [h4]; simp [hi]
    rw [List.getElem?_take, if_pos (by omega)] at e
    rw [Nat.zero_add]
    simpa using e

theorem clone_nil (w : World) : Calls Tryz.prog 98 #[.slice none 0 0] w fun e w' => e = .returned (.slice none 0 0) ∧ w = w' := by
  have h1 := Lib.run_eql_slice_nil (P := Tryz.prog)
  go_enter Tryz.func98, Tryz.ntmps98
  go_wp2
  go_ret
  exact ⟨rfl, rfl⟩

set_option maxRecDepth 100000 in
theorem clone_some (b o cap : Nat) (l : List UInt8) (w : World) (hl : l.length ≤ 1099511627776) (hc : ∀ i x, l[i]? = some x → w.cell? ⟨b, o + i, none⟩ = some (bval x)) :
    Calls Tryz.prog 98 #[.slice (some ⟨b, o, none⟩) l.length cap] w (GivesBytes w l) := by
  obtain ⟨i0, hi, hz0, hz1, hz2⟩ := info_parts infoByte
  have hown : (w.alloc (.cells #[] tByte)).ownsRow w.heap.size tByte 1 (.slice (some ⟨w.heap.size, 0, none⟩) 0 0) 0 [] :=
    ⟨rfl, Or.inr ⟨w.heap.size, 0, #[], rfl, Nat.le_refl _, heap_alloc_last _ _, Nat.le_refl _, Nat.zero_le _, rfl, rfl⟩⟩
  have HC := Lib.hid hc
  have HO := Lib.hid hown
  have HI := Lib.hid (And.intro hi (And.intro hz0 (And.intro hz1 hz2)))
  clear hc hown hi hz0 hz1 hz2
  have s2 : ∀ j u, (l.map bval)[j]? = some u → (w.alloc (.cells #[] tByte)).cell? ((⟨b, o, none⟩ : Addr).add j) = some u := by
    intro j u hj
    obtain ⟨x, hx, rfl⟩ : ∃ x, l[j]? = some x ∧ bval x = u := by simpa using hj
    have hadd : (⟨b, o, none⟩ : Addr).add j = ⟨b, o + j, none⟩ := by unfold Addr.add; split <;> simp_all
    have hc := HC.out j x hx
    rw [hadd, World.cell?_alloc_past _ _ _ (block_lt_of_cell hc)]
    exact hc
  have s3 : ∀ u ∈ l.map bval, u.oneCell' = true := by
    intro u hu
    obtain ⟨x, _, rfl⟩ := List.mem_map.1 hu
    rfl
  have HS := Lib.hid (And.intro s2 s3)
  clear s2 s3
  have hnil := fun (w : World) (a : Option Addr) (n c : Nat) => Lib.run_eql_slice_nil (P := Tryz.prog) w 31 tByte a n c 0 0 Tryz.underlying31
  go_enter Tryz.func98, Tryz.ntmps98
  go_wp2_with (at_builtin; refine wpList_append_own _ rfl (.tmp 5) (.tmp 6) 31 rfl w.heap.size tByte i0 (.int .u8 0) 1 1 Tryz.underlying31 HI.out.1 HI.out.2.1 HI.out.2.2.1 HI.out.2.2.2 rfl (by decide) _ 0 [] rfl HO.out ⟨b, o, none⟩ l.length cap (l.map bval) rfl (by simp) HS.out.1 HS.out.2 (by unfold maxLen; omega) (by omega) (by simp) ?_; intro v' w1 hown1 hgrow _)
  go_ret
  refine ⟨_, rfl, (((Below.refl _ _).alloc (Nat.le_refl _) _).grown hgrow (by simp) (fun k e => by cases e; exact Nat.le_refl _)), ?_⟩
  rw [List.nil_append] at hown1
  exact bytes_of_owns hown1 (by simp)

end Go.Proofs.YtgffifleflkjoaaGreat

namespace Go.Proofs.YtgffifleflkjoaaGreat
open Go.RowKit Dm

theorem own_pos {w : World} {base e size n : Nat} {v : Value} {xs : List Value} (h : w.ownsRow base e size v n xs) (hn : 0 < n) : ∃ g cap, v = .slice (some ⟨g, 0, none⟩) n cap := by
  rcases h.2 with ⟨_, h0⟩ | ⟨g, cap, cur, hv, _⟩
  · omega
  · exact ⟨g, cap, hv⟩

/-- What an append leaves: new bytes in the tape's cell. -/
def TapeNow (w : World) (q t : Nat) (l : List UInt8) (w' : World) : Prop :=
  ∃ v' w1, Below w.heap.size w w1 ∧ BytesAt w1.heap (fun k => w.heap.size ≤ k) v' l ∧ w' = w1.setCell ⟨q, 1 + t, none⟩ v'

set_option maxRecDepth 100000 in
set_option maxHeartbeats 2000000 in
theorem appended1_some (q bt bx t b o len cap b2 o2 cap2 : Nat) (l l2 : List UInt8) (w : World) (ht : t < 4) (hb : len = l.length) (hcap : cap ≤ 9223372036854775807) (hlc : len ≤ cap) (h1 : l.length + l2.length ≤ 1099511627776) (h2 : 0 < l2.length)
    (hbt : w.cell? ⟨bt, 0, none⟩ = some (.int .i64 t)) (hbx : w.cell? ⟨bx, 0, none⟩ = some (.slice (some ⟨b2, o2, none⟩) l2.length cap2)) (hq : w.cell? ⟨q, 1 + t, none⟩ = some (.slice (some ⟨b, o, none⟩) len cap)) (hf : w.frozen? ⟨q, 1 + t, none⟩ = false)
    (hc : ∀ i x, l[i]? = some x → w.cell? ⟨b, o + i, none⟩ = some (bval x)) (hc2 : ∀ i x, l2[i]? = some x → w.cell? ⟨b2, o2 + i, none⟩ = some (bval x)) :
    Calls Tryz.prog 142 #[.pointer (some ⟨q, 0, none⟩), .pointer (some ⟨bt, 0, none⟩), .pointer (some ⟨bx, 0, none⟩)] w fun e w' => e = .returned (.tuple #[]) ∧ TapeNow w q t (l ++ l2) w' := by
  obtain ⟨i0, hi, hz0, hz1, hz2⟩ := info_parts infoByte
  have HI := Lib.hid (And.intro hi (And.intro hz0 (And.intro hz1 hz2)))
  have HC := Lib.hid (And.intro hc hc2)
  have HB := Lib.hid hb
  clear hi hz0 hz1 hz2 hc hc2 hb
  have hz : (0 : Int) ≤ (t : Int) := by omega
  have hz4 : (t : Int) < 4 := by omega
  go_enter Tryz.func142, Tryz.ntmps142
  go_wp2
  go_quiet (fail)
  go_wp2
  have hadd : ∀ (b o j : Nat), (⟨b, o, none⟩ : Addr).add j = ⟨b, o + j, none⟩ := fun b o j => by unfold Addr.add; split <;> simp_all
  have read : ∀ (b o : Nat) (l : List UInt8), (∀ i x, l[i]? = some x → w.cell? ⟨b, o + i, none⟩ = some (bval x)) → ∀ j u, (l.map bval)[j]? = some u → w.cell? ((⟨b, o, none⟩ : Addr).add j) = some u := by
    intro b o l h j u hj
    obtain ⟨x, hx, rfl⟩ : ∃ x, l[j]? = some x ∧ bval x = u := by simpa using hj
    rw [hadd]
    exact h j x hx
  have R1 := Lib.hid (read b o l HC.out.1)
  have R2 := Lib.hid (read b2 o2 l2 HC.out.2)
  have R3 : Hid (∀ u ∈ l2.map bval, u.oneCell' = true) := fun u hu => by
    obtain ⟨x, _, rfl⟩ := List.mem_map.1 hu
    rfl
  clear read hadd
  have lt1 := block_lt_of_cell hbt
  have lt2 := block_lt_of_cell hq
  have ll : ((len : Nat) : Int) ≤ (cap : Int) := by omega
  go_region_law ((refine step_append_grows rfl (.tmp 18) (.tmp 19) 31 rfl tByte i0 (.int .u8 0) 1 1 Tryz.underlying31 HI.out.1 HI.out.2.1 HI.out.2.2.1 HI.out.2.2.2 rfl (by decide) (some ⟨b, o, none⟩) len len (l.map bval) rfl (fun e => by cases e) (by rw [HB.out]; simp) (fun b' e j u hj => by cases e; exact R1.out j u hj) ⟨b2, o2, none⟩ l2.length cap2 (l2.map bval) rfl (by simp) (fun j u hj => R2.out j u hj) R3.out (by omega) (by unfold maxLen; rw [HB.out]; omega) (by rw [HB.out]; omega) ?_; intro v' w1 hown1 hgrow1; obtain ⟨g1, cap1, rfl⟩ := own_pos hown1 (by omega); have k1 : w1.cell? ⟨bt, 0, none⟩ = some (.int .i64 t) := (World.cell?_of_block (w := w) (hgrow1.block bt lt1 (by simp))).trans hbt; have k2 : w1.cell? ⟨q, 1 + t, none⟩ = some (.slice (some ⟨b, o, none⟩) len cap) := (World.cell?_of_block (w := w) (hgrow1.block q lt2 (by simp))).trans hq; have k3 : w1.frozen? ⟨q, 1 + t, none⟩ = false := (World.frozen?_of_block (w := w) (hgrow1.block q lt2 (by simp))).trans hf))
  all_goals
    go_end0
    refine ⟨rfl, _, w1, ⟨hgrow1.os, hgrow1.tape, hgrow1.output, hgrow1.size, fun k hk => hgrow1.block k hk (by simp)⟩, ?_, rfl⟩
    rw [← List.map_append] at hown1
    exact bytes_of_owns hown1 (by rw [HB.out]; simp)

set_option maxRecDepth 100000 in
set_option maxHeartbeats 2000000 in
theorem appended1_nil (q bt bx t b2 o2 cap2 : Nat) (l2 : List UInt8) (w : World) (ht : t < 4) (h1 : l2.length ≤ 1099511627776) (h2 : 0 < l2.length)
    (hbt : w.cell? ⟨bt, 0, none⟩ = some (.int .i64 t)) (hbx : w.cell? ⟨bx, 0, none⟩ = some (.slice (some ⟨b2, o2, none⟩) l2.length cap2)) (hq : w.cell? ⟨q, 1 + t, none⟩ = some (.slice none 0 0)) (hf : w.frozen? ⟨q, 1 + t, none⟩ = false)
    (hc2 : ∀ i x, l2[i]? = some x → w.cell? ⟨b2, o2 + i, none⟩ = some (bval x)) :
    Calls Tryz.prog 142 #[.pointer (some ⟨q, 0, none⟩), .pointer (some ⟨bt, 0, none⟩), .pointer (some ⟨bx, 0, none⟩)] w fun e w' => e = .returned (.tuple #[]) ∧ TapeNow w q t l2 w' := by
  obtain ⟨i0, hi, hz0, hz1, hz2⟩ := info_parts infoByte
  have HI := Lib.hid (And.intro hi (And.intro hz0 (And.intro hz1 hz2)))
  have HC := Lib.hid hc2
  clear hi hz0 hz1 hz2 hc2
  have hz : (0 : Int) ≤ (t : Int) := by omega
  have hz4 : (t : Int) < 4 := by omega
  go_enter Tryz.func142, Tryz.ntmps142
  go_wp2
  go_quiet (fail)
  go_wp2
  have hadd : ∀ (b o j : Nat), (⟨b, o, none⟩ : Addr).add j = ⟨b, o + j, none⟩ := fun b o j => by unfold Addr.add; split <;> simp_all
  have read : ∀ (b o : Nat) (l : List UInt8), (∀ i x, l[i]? = some x → w.cell? ⟨b, o + i, none⟩ = some (bval x)) → ∀ j u, (l.map bval)[j]? = some u → w.cell? ((⟨b, o, none⟩ : Addr).add j) = some u := by
    intro b o l h j u hj
    obtain ⟨x, hx, rfl⟩ : ∃ x, l[j]? = some x ∧ bval x = u := by simpa using hj
    rw [hadd]
    exact h j x hx
  have R2 := Lib.hid (read b2 o2 l2 HC.out)
  have R3 : Hid (∀ u ∈ l2.map bval, u.oneCell' = true) := fun u hu => by
    obtain ⟨x, _, rfl⟩ := List.mem_map.1 hu
    rfl
  clear read hadd
  have lt1 := block_lt_of_cell hbt
  have lt2 := block_lt_of_cell hq
  go_region_law ((refine step_append_grows rfl (.tmp 18) (.tmp 19) 31 rfl tByte i0 (.int .u8 0) 1 1 Tryz.underlying31 HI.out.1 HI.out.2.1 HI.out.2.2.1 HI.out.2.2.2 rfl (by decide) none 0 0 [] rfl (fun _ => ⟨rfl, rfl⟩) rfl (fun b' e j u hj => by cases e) ⟨b2, o2, none⟩ l2.length cap2 (l2.map bval) rfl (by simp) (fun j u hj => R2.out j u hj) R3.out (by omega) (by unfold maxLen; omega) (by omega) ?_; intro v' w1 hown1 hgrow1; obtain ⟨g1, cap1, rfl⟩ := own_pos hown1 (by omega); have k1 : w1.cell? ⟨bt, 0, none⟩ = some (.int .i64 t) := (World.cell?_of_block (w := w) (hgrow1.block bt lt1 (by simp))).trans hbt; have k2 : w1.cell? ⟨q, 1 + t, none⟩ = some (.slice none 0 0) := (World.cell?_of_block (w := w) (hgrow1.block q lt2 (by simp))).trans hq; have k3 : w1.frozen? ⟨q, 1 + t, none⟩ = false := (World.frozen?_of_block (w := w) (hgrow1.block q lt2 (by simp))).trans hf))
  all_goals
    go_end0
    refine ⟨rfl, _, w1, ⟨hgrow1.os, hgrow1.tape, hgrow1.output, hgrow1.size, fun k hk => hgrow1.block k hk (by simp)⟩, ?_, rfl⟩
    have hown2 : w1.ownsRow w.heap.size tByte 1 (.slice (some ⟨g1, 0, none⟩) l2.length cap1) l2.length (l2.map bval) := by simpa using hown1
    first
      | exact bytes_of_owns hown2 rfl
      | (rw [Nat.zero_add]; exact bytes_of_owns hown2 rfl)

set_option maxRecDepth 100000 in
set_option maxHeartbeats 2000000 in
theorem appended1_none (q bt bx t len cap c2 : Nat) (ao a2 : Option Addr) (hao : (ao = none ∧ len = 0 ∧ cap = 0) ∨ ∃ b o : Nat, ao = some ⟨b, o, none⟩) (ha2 : (a2 = none ∧ c2 = 0) ∨ ∃ b o : Nat, a2 = some ⟨b, o, none⟩) (w : World) (ht : t < 4) (hcap : cap ≤ 9223372036854775807) (hlc : len ≤ cap)
    (hbt : w.cell? ⟨bt, 0, none⟩ = some (.int .i64 t)) (hbx : w.cell? ⟨bx, 0, none⟩ = some (.slice a2 0 c2)) (hq : w.cell? ⟨q, 1 + t, none⟩ = some (.slice ao len cap)) (hf : w.frozen? ⟨q, 1 + t, none⟩ = false) :
    Calls Tryz.prog 142 #[.pointer (some ⟨q, 0, none⟩), .pointer (some ⟨bt, 0, none⟩), .pointer (some ⟨bx, 0, none⟩)] w fun e w' => e = .returned (.tuple #[]) ∧ ∃ n, w' = (w.drewN n).setCell ⟨q, 1 + t, none⟩ (.slice ao len len) := by
  have hz : (0 : Int) ≤ (t : Int) := by omega
  have hz4 : (t : Int) < 4 := by omega
  have ll : ((len : Nat) : Int) ≤ (cap : Int) := by omega
  rcases hao with ⟨rfl, rfl, rfl⟩ | ⟨b, o, rfl⟩ <;> rcases ha2 with ⟨rfl, rfl⟩ | ⟨b2, o2, rfl⟩
  all_goals
    go_enter Tryz.func142, Tryz.ntmps142
    go_wp2
    go_quiet (fail)
    go_wp2
    go_region
    all_goals
      go_end0
      exact ⟨rfl, _, rfl⟩

/-- What an append leaves, its bytes new or in F. -/
def TapeIn (w : World) (F : Nat → Prop) (q t : Nat) (l : List UInt8) (w' : World) : Prop :=
  ∃ v' w1, Below w.heap.size w w1 ∧ BytesAt w1.heap (fun k => F k ∨ w.heap.size ≤ k) v' l ∧ w' = w1.setCell ⟨q, 1 + t, none⟩ v'

theorem BytesAt.cells {w : World} {F : Nat → Prop} {a : Option Addr} {n c : Nat} {l : List UInt8} (h : BytesAt w.heap F (.slice a n c) l) :
    n = l.length ∧ l.length ≤ c ∧ c ≤ 9223372036854775807 ∧ ((a = none ∧ n = 0 ∧ c = 0 ∧ l = []) ∨ ∃ b o : Nat, a = some ⟨b, o, none⟩ ∧ ∀ i x, l[i]? = some x → w.cell? ⟨b, o + i, none⟩ = some (bval x)) := by
  rcases h with ⟨h1, rfl⟩ | ⟨b, o, cap, cs, t, fr, h1, h2, h3, g2, g3, g4⟩
  · cases h1
    exact ⟨rfl, Nat.le_refl _, by omega, Or.inl ⟨rfl, rfl, rfl, rfl⟩⟩
  · cases h1
    exact ⟨rfl, h2, h3, Or.inr ⟨b, o, rfl, fun i x hi => (cell_of_row _ _ _ _ _ _ g3).trans (g4 i x hi)⟩⟩

/-- Bytes are appended to a tape. -/
theorem appended1 (q bt bx t : Nat) (v v2 : Value) (l l2 : List UInt8) (F : Nat → Prop) (w : World) (ht : t < 4) (h1 : l.length + l2.length ≤ 1099511627776)
    (hbt : w.cell? ⟨bt, 0, none⟩ = some (.int .i64 t)) (hbx : w.cell? ⟨bx, 0, none⟩ = some v2) (hq : w.cell? ⟨q, 1 + t, none⟩ = some v) (hf : w.frozen? ⟨q, 1 + t, none⟩ = false)
    (hv : BytesAt w.heap F v l) (hv2 : BytesAt w.heap F v2 l2) :
    Calls Tryz.prog 142 #[.pointer (some ⟨q, 0, none⟩), .pointer (some ⟨bt, 0, none⟩), .pointer (some ⟨bx, 0, none⟩)] w fun e w' => e = .returned (.tuple #[]) ∧ TapeIn w F q t (l ++ l2) w' := by
  obtain ⟨a, n, c, rfl⟩ : ∃ a n c, v = .slice a n c := by rcases hv with ⟨rfl, _⟩ | ⟨b, o, cap, cs, t, fr, rfl, _⟩ <;> exact ⟨_, _, _, rfl⟩
  obtain ⟨a2, n2, c2, rfl⟩ : ∃ a n c, v2 = .slice a n c := by rcases hv2 with ⟨rfl, _⟩ | ⟨b, o, cap, cs, t, fr, rfl, _⟩ <;> exact ⟨_, _, _, rfl⟩
  obtain ⟨e1, e2, e3, e4⟩ := hv.cells
  obtain ⟨k1, k2, k3, k4⟩ := hv2.cells
  have up : ∀ w', TapeNow w q t (l ++ l2) w' → TapeIn w F q t (l ++ l2) w' := fun w' ⟨v', w1, x1, x2, x3⟩ => ⟨v', w1, x1, x2.stays (fun _ _ => rfl) (fun _ => Or.inr), x3⟩
  rcases Nat.eq_zero_or_pos l2.length with h0 | h0
  · obtain rfl : l2 = [] := List.eq_nil_of_length_eq_zero h0
    obtain rfl : n2 = 0 := k1
    refine (appended1_none q bt bx t n c c2 a a2 ?_ ?_ w ht e3 (by omega) hbt hbx hq hf).mono ?_
    · rcases e4 with ⟨x1, x2, x3, _⟩ | ⟨b, o, x, _⟩
      · exact Or.inl ⟨x1, x2, x3⟩
      · exact Or.inr ⟨b, o, x⟩
    · rcases k4 with ⟨x1, x2, x3, _⟩ | ⟨b, o, x, _⟩
      · exact Or.inl ⟨x1, x3⟩
      · exact Or.inr ⟨b, o, x⟩
    · rintro e w' ⟨rfl, m, rfl⟩
      refine ⟨rfl, _, w.drewN m, ⟨rfl, rfl, rfl, Nat.le_refl _, fun _ _ => rfl⟩, ?_, rfl⟩
      rw [List.append_nil]
      rcases hv with ⟨x1, rfl⟩ | ⟨b, o, cap, cs, t, fr, x1, x2, x3, g2, g3, g4⟩
      · cases x1
        exact Or.inl ⟨rfl, rfl⟩
      · cases x1
        exact Or.inr ⟨b, o, _, cs, t, fr, rfl, Nat.le_refl _, by omega, Or.inl g2, g3, g4⟩
  · subst k1
    rcases k4 with ⟨_, x2, _⟩ | ⟨b2, o2, rfl, y⟩
    · omega
    · subst e1
      rcases e4 with ⟨rfl, x2, rfl, rfl⟩ | ⟨b, o, rfl, y1⟩
      · refine (appended1_nil q bt bx t b2 o2 c2 l2 w ht (by omega) h0 hbt hbx hq hf y).mono ?_
        rintro e w' ⟨rfl, h⟩
        exact ⟨rfl, up _ h⟩
      · refine (appended1_some q bt bx t b o _ c b2 o2 c2 l l2 w ht rfl e3 e2 h1 h0 hbt hbx hq hf y1 y).mono ?_
        rintro e w' ⟨rfl, h⟩
        exact ⟨rfl, up _ h⟩

end Go.Proofs.YtgffifleflkjoaaGreat

namespace Go.Proofs.YtgffifleflkjoaaGreat
open Go.RowKit Dm

/-- What appends bytes to a tape is made. -/
theorem appended_c (t : Int) (a : Option Addr) (n c : Nat) (w : World) : Calls Tryz.prog 100 #[.int .i64 t, .slice a n c] w fun e w' =>
    e = .returned (.func (.func 142) #[] #[.pointer (some ⟨w.heap.size, 0, none⟩), .pointer (some ⟨w.heap.size + 1, 0, none⟩)]) ∧
      (w.alloc (.cells #[.int .i64 t] 3)).alloc (.cells #[.slice a n c] 31) = w' := by
  go_enter Tryz.func100, Tryz.ntmps100
  go_wp2
  go_ret
  exact ⟨rfl, rfl⟩

theorem pick_le (k : Int) (n : Nat) : 0 ≤ pick k (n + 1) ∧ pick k (n + 1) ≤ n := by
  unfold pick
  have h1 := Int.emod_nonneg k (b := (n : Int) + 1) (by omega)
  have h2 := Int.emod_lt_of_pos k (b := (n : Int) + 1) (by omega)
  exact ⟨h1, by omega⟩

set_option maxRecDepth 100000 in
set_option maxHeartbeats 2000000 in
theorem append1_some (q bt bx t b2 o2 len c2 : Nat) (k j : Int) (w : World) (R : World → Prop) (hk : -9223372036854775808 ≤ k) (hk' : k ≤ 9223372036854775807) (hlen : len ≤ 1048576) (hlc : len ≤ c2) (hc2 : c2 ≤ 9223372036854775807)
    (hj : pick k ((len : Int) + 1) = j) (hj0 : 0 ≤ j) (hj1 : j ≤ (len : Int))
    (hbt : w.cell? ⟨bt, 0, none⟩ = some (.int .i64 t)) (hbx : w.cell? ⟨bx, 0, none⟩ = some (.slice (some ⟨b2, o2, none⟩) len c2))
    (hR : Calls Tryz.prog 142 #[.pointer (some ⟨q, 0, none⟩), .pointer (some ⟨w.heap.size, 0, none⟩), .pointer (some ⟨w.heap.size + 1, 0, none⟩)]
      ((((w.drew).alloc (.cells #[.int .i64 t] 3)).alloc (.cells #[.slice (some ⟨b2, o2, none⟩) j.toNat c2] 31))) fun e w' => e = .returned (.tuple #[]) ∧ R w') :
    Calls Tryz.prog 101 #[.pointer (some ⟨q, 0, none⟩), .int .i64 k, .pointer (some ⟨bt, 0, none⟩), .pointer (some ⟨bx, 0, none⟩)] w fun e w' => e = .returned (.tuple #[]) ∧ R w' := by
  have HR := Lib.hid hR
  have HJ := Lib.hid hj
  clear hR hj
  have hwr : IntKind.i64.wrap ((len : Int) + 1) = (len : Int) + 1 := by simp [IntKind.wrap, IntKind.bits, IntKind.signed]; omega
  have hj2 : j ≤ (c2 : Int) := by omega
  have c1 : ∀ x : Ext w.heap.size w, x.world.cell? ⟨bt, 0, none⟩ = some (.int .i64 t) := fun x => x.cell (block_lt_of_cell hbt) hbt
  have c2' : ∀ x : Ext w.heap.size w, x.world.cell? ⟨bx, 0, none⟩ = some (.slice (some ⟨b2, o2, none⟩) len c2) := fun x => x.cell (block_lt_of_cell hbx) hbx
  go_enter Tryz.func101, Tryz.ntmps101
  go_wp2
  refine wp_region_hoist (fun w' => ∃ x : Ext w.heap.size w, w' = x.world) [10] (by kernel_rfl) ?_
  refine wpAnyI_reads [0, 1, 2, 3, 4, 5, 9] 4 _ ⟨⟨w.drew, (Below.refl _ _).drew⟩, rfl⟩ (by kernel_rfl) ?_
  simp only [List.filterMap_cons, List.filterMap_nil, List.getElem?_toArray, List.getElem?_cons_succ, List.getElem?_cons_zero]
  repeat (refine wpHoist_step (fun K hK => ?_); simp only [hoists, sameUpon]; go_simp; refine hK _ ?_; clear hK K)
  refine wpHoist_nil ?_
  refine wpAnyI_one 6 3 _ _ rfl (by kernel_rfl) ?_
  refine wpList_plain rfl fun K hK => ?_
  go_simp
  go_at_call 46
  refine (picked_c k ((len : Int) + 1) _ hk hk' (by omega) (by omega)).mono ?_
  rw [HJ.out]
  rintro e w' ⟨rfl, rfl⟩
  refine hK _ _ (wpList_nil ⟨rfl, fun _ => ⟨⟨w.drew, (Below.refl _ _).drew⟩, rfl⟩, ?_⟩)
  clear hK K
  refine wpAnyI_reads [7] 2 _ ⟨⟨w.drew, (Below.refl _ _).drew⟩, rfl⟩ (by kernel_rfl) ?_
  simp only [List.filterMap_cons, List.filterMap_nil, List.getElem?_toArray, List.getElem?_cons_succ, List.getElem?_cons_zero]
  repeat (refine wpHoist_step (fun K hK => ?_); simp only [hoists, sameUpon]; go_simp; refine hK _ ?_; clear hK K)
  refine wpHoist_nil ?_
  refine wpAnyI_one 8 1 _ _ rfl (by kernel_rfl) ?_
  refine wpList_plain rfl fun K hK => ?_
  go_simp
  go_at_call 100
  refine (appended_c _ _ _ _ _).mono ?_
  rintro e w' ⟨rfl, rfl⟩
  refine hK _ _ (wpList_nil ⟨rfl, fun _ => ⟨⟨_, (((Below.refl _ _).drew).alloc (Nat.le_refl _) _).alloc (by simp) _⟩, rfl⟩, ?_⟩)
  clear hK K
  refine wpAnyI_one 10 0 _ _ rfl (by kernel_rfl) ?_
  refine wpList_plain rfl fun K hK => ?_
  go_simp
  go_at_call 142
  refine HR.out.mono ?_
  rintro e w' ⟨rfl, hw⟩
  refine hK _ _ (wpList_nil ⟨rfl, fun h => absurd (List.mem_cons_self ..) h, by kernel_rfl, ?_⟩)
  clear hK K
  go_end0
  exact ⟨rfl, hw⟩

set_option maxRecDepth 100000 in
set_option maxHeartbeats 2000000 in
theorem append1_nil (q bt bx t : Nat) (k : Int) (w : World) (R : World → Prop) (hk : -9223372036854775808 ≤ k) (hk' : k ≤ 9223372036854775807)
    (hbt : w.cell? ⟨bt, 0, none⟩ = some (.int .i64 t)) (hbx : w.cell? ⟨bx, 0, none⟩ = some (.slice none 0 0))
    (hR : Calls Tryz.prog 142 #[.pointer (some ⟨q, 0, none⟩), .pointer (some ⟨w.heap.size, 0, none⟩), .pointer (some ⟨w.heap.size + 1, 0, none⟩)]
      ((((w.drew).alloc (.cells #[.int .i64 t] 3)).alloc (.cells #[.slice none 0 0] 31))) fun e w' => e = .returned (.tuple #[]) ∧ R w') :
    Calls Tryz.prog 101 #[.pointer (some ⟨q, 0, none⟩), .int .i64 k, .pointer (some ⟨bt, 0, none⟩), .pointer (some ⟨bx, 0, none⟩)] w fun e w' => e = .returned (.tuple #[]) ∧ R w' := by
  have HR := Lib.hid hR
  have HJ := Lib.hid (show pick k 1 = 0 by unfold pick; omega)
  clear hR
  have c1 : ∀ x : Ext w.heap.size w, x.world.cell? ⟨bt, 0, none⟩ = some (.int .i64 t) := fun x => x.cell (block_lt_of_cell hbt) hbt
  have c2' : ∀ x : Ext w.heap.size w, x.world.cell? ⟨bx, 0, none⟩ = some (.slice none 0 0) := fun x => x.cell (block_lt_of_cell hbx) hbx
  go_enter Tryz.func101, Tryz.ntmps101
  go_wp2
  refine wp_region_hoist (fun w' => ∃ x : Ext w.heap.size w, w' = x.world) [10] (by kernel_rfl) ?_
  refine wpAnyI_reads [0, 1, 2, 3, 4, 5, 9] 4 _ ⟨⟨w.drew, (Below.refl _ _).drew⟩, rfl⟩ (by kernel_rfl) ?_
  simp only [List.filterMap_cons, List.filterMap_nil, List.getElem?_toArray, List.getElem?_cons_succ, List.getElem?_cons_zero]
  repeat (refine wpHoist_step (fun K hK => ?_); simp only [hoists, sameUpon]; go_simp; refine hK _ ?_; clear hK K)
  refine wpHoist_nil ?_
  refine wpAnyI_one 6 3 _ _ rfl (by kernel_rfl) ?_
  refine wpList_plain rfl fun K hK => ?_
  go_simp
  go_at_call 46
  refine (picked_c k 1 _ hk hk' (by omega) (by omega)).mono ?_
  rw [HJ.out]
  rintro e w' ⟨rfl, rfl⟩
  refine hK _ _ (wpList_nil ⟨rfl, fun _ => ⟨⟨w.drew, (Below.refl _ _).drew⟩, rfl⟩, ?_⟩)
  clear hK K
  refine wpAnyI_reads [7] 2 _ ⟨⟨w.drew, (Below.refl _ _).drew⟩, rfl⟩ (by kernel_rfl) ?_
  simp only [List.filterMap_cons, List.filterMap_nil, List.getElem?_toArray, List.getElem?_cons_succ, List.getElem?_cons_zero]
  repeat (refine wpHoist_step (fun K hK => ?_); simp only [hoists, sameUpon]; go_simp; refine hK _ ?_; clear hK K)
  refine wpHoist_nil ?_
  refine wpAnyI_one 8 1 _ _ rfl (by kernel_rfl) ?_
  refine wpList_plain rfl fun K hK => ?_
  go_simp
  go_at_call 100
  refine (appended_c _ _ _ _ _).mono ?_
  rintro e w' ⟨rfl, rfl⟩
  refine hK _ _ (wpList_nil ⟨rfl, fun _ => ⟨⟨_, (((Below.refl _ _).drew).alloc (Nat.le_refl _) _).alloc (by simp) _⟩, rfl⟩, ?_⟩)
  clear hK K
  refine wpAnyI_one 10 0 _ _ rfl (by kernel_rfl) ?_
  refine wpList_plain rfl fun K hK => ?_
  go_simp
  go_at_call 142
  refine HR.out.mono ?_
  rintro e w' ⟨rfl, hw⟩
  refine hK _ _ (wpList_nil ⟨rfl, fun h => absurd (List.mem_cons_self ..) h, by kernel_rfl, ?_⟩)
  clear hK K
  go_end0
  exact ⟨rfl, hw⟩

/-- A beginning of bytes is appended to a tape. -/
theorem append1 (q bt bx t : Nat) (k : Int) (v v2 : Value) (l l2 : List UInt8) (F : Nat → Prop) (w : World) (ht : t < 4) (hk : -9223372036854775808 ≤ k) (hk' : k ≤ 9223372036854775807) (h1 : l.length ≤ 1048576) (h2 : l2.length ≤ 1048576)
    (hbt : w.cell? ⟨bt, 0, none⟩ = some (.int .i64 t)) (hbx : w.cell? ⟨bx, 0, none⟩ = some v2) (hq : w.cell? ⟨q, 1 + t, none⟩ = some v) (hf : w.frozen? ⟨q, 1 + t, none⟩ = false)
    (hv : BytesAt w.heap F v l) (hv2 : BytesAt w.heap F v2 l2) :
    Calls Tryz.prog 101 #[.pointer (some ⟨q, 0, none⟩), .int .i64 k, .pointer (some ⟨bt, 0, none⟩), .pointer (some ⟨bx, 0, none⟩)] w fun e w' => e = .returned (.tuple #[]) ∧ TapeIn w F q t (l ++ l2.take (pick k (l2.length + 1)).toNat) w' := by
  have lt := block_lt_of_cell hq
  obtain ⟨p0, p1⟩ := pick_le k l2.length
  have mid : ∀ (u : Value), BytesAt w.heap F u (l2.take (pick k (l2.length + 1)).toNat) →
      Calls Tryz.prog 142 #[.pointer (some ⟨q, 0, none⟩), .pointer (some ⟨w.heap.size, 0, none⟩), .pointer (some ⟨w.heap.size + 1, 0, none⟩)]
        ((w.drew.alloc (.cells #[.int .i64 t] 3)).alloc (.cells #[u] 31)) fun e w' => e = .returned (.tuple #[]) ∧ TapeIn w F q t (l ++ l2.take (pick k (l2.length + 1)).toNat) w' := by
    intro u hu
    have hb : Below w.heap.size w ((w.drew.alloc (.cells #[.int .i64 t] 3)).alloc (.cells #[u] 31)) := (((Below.refl _ _).drew).alloc (Nat.le_refl _) _).alloc (by simp) _
    have st : ∀ {x : Value} {y : List UInt8}, BytesAt w.heap F x y → BytesAt ((w.drew.alloc (.cells #[.int .i64 t] 3)).alloc (.cells #[u] 31)).heap F x y := by
      intro x y hx
      rcases hx with hx | ⟨b, o, cap, c, tt, fr, g1, g2, g3, g4, g5, g6⟩
      · exact Or.inl hx
      · exact Or.inr ⟨b, o, cap, c, tt, fr, g1, g2, g3, g4, (hb.block b (Array.getElem?_eq_some_iff.1 g5).1).trans g5, g6⟩
    refine (appended1 q w.heap.size (w.heap.size + 1) t v u l (l2.take (pick k (l2.length + 1)).toNat) F _ ht ?_ ?_ ?_ ((hb.cell lt).trans hq) ((hb.frozen lt).trans hf) (st hv) (st hu)).mono ?_
    · simp only [List.length_take]; omega
    · rw [World.cell?_alloc_past _ _ _ (by simp)]
      exact cell_of_row _ _ _ _ _ _ (heap_alloc_last w.drew (.cells #[.int .i64 t] 3))
    · have e : w.heap.size + 1 = (w.drew.alloc (.cells #[.int .i64 t] 3)).heap.size := by simp
      rw [e, cell_of_row _ _ _ _ _ _ (heap_alloc_last (w.drew.alloc (.cells #[.int .i64 t] 3)) (.cells #[u] 31))]
      rfl
    · rintro e w' ⟨rfl, v', w1, x1, x2, rfl⟩
      refine ⟨rfl, v', w1, hb.trans (x1.mono hb.size), x2.stays (fun _ _ => rfl) (fun i hi => ?_), rfl⟩
      rcases hi with hi | hi
      · exact Or.inl hi
      · exact Or.inr (Nat.le_trans hb.size hi)
  rcases hv2 with ⟨rfl, rfl⟩ | ⟨b, o, cap, c, tt, fr, rfl, g2, g3, g4, g5, g6⟩
  · refine append1_nil q bt bx t k w _ hk hk' hbt hbx (mid _ (Or.inl ⟨rfl, by simp⟩))
  · refine append1_some q bt bx t b o l2.length cap k _ w _ hk hk' h2 g2 g3 rfl p0 p1 hbt hbx (mid _ (Or.inr ⟨b, o, cap, c, tt, fr, ?_, ?_, g3, g4, g5, fun i x hi => g6 i x ?_⟩))
    · simp only [List.length_take]; congr 1; omega
    · simp only [List.length_take]; omega
    · rw [List.getElem?_take] at hi
      split at hi
      · exact hi
      · cases hi

end Go.Proofs.YtgffifleflkjoaaGreat

namespace Go.Proofs.YtgffifleflkjoaaGreat
open Go.RowKit Dm

theorem one_bvals (l : List UInt8) : ∀ v ∈ l.map bval, v.oneCell' = true := by
  intro v hv
  obtain ⟨x, _, rfl⟩ := List.mem_map.1 hv
  rfl

theorem all_bvals (l : List UInt8) : (l.map bval).toArray.all (·.oneCell') = true := by
  simp [Array.all_eq_true]
  intro i hi
  rfl

theorem pick_lt (k : Int) (n : Nat) (hn : 0 < n) : 0 ≤ pick k n ∧ pick k n < n := by
  unfold pick
  exact ⟨Int.emod_nonneg k (by omega), Int.emod_lt_of_pos k (by omega)⟩

end Go.Proofs.YtgffifleflkjoaaGreat

namespace Go.Proofs.YtgffifleflkjoaaGreat
open Go.RowKit Dm

set_option maxRecDepth 100000 in
theorem mclone (m : Nat) (es : Array MapEntry) (clock : Nat) (w : World) (hb : w.heap[m]? = some (.map es clock)) :
    Calls Tryz.prog 64 #[.map (some m)] w fun e w' => e = .returned (.map (some w.heap.size)) ∧ w' = w.alloc (.map es clock) := by
  have hq := fun w => run_eql_map_nil_sl (P := Tryz.prog) w tMap _ _ (some m) Tryz.underlying89
  go_enter Tryz.func64, Tryz.ntmps64
  go_wp2
  rw [run_callFunc_extern Tryz.func103 (by kernel_rfl) (by kernel_rfl) (by kernel_rfl) (e := Extern.MapsClone.clone) (by kernel_rfl), run_maps_clone_sl w tMap hb]
  simp only [Result.andThen]
  rw [Oper.upon_value]
  go_wp2
  rw [run_typeAssert_map_sl _ tMap 20 _ _ _ Tryz.underlying89]
  simp only [Result.andThen]
  rw [Oper.upon_value]
  go_wp2
  go_ret
  exact ⟨rfl, rfl⟩

abbrev stand0 : Array Value := #[.map none, .slice none 0 0, .slice none 0 0, .slice none 0 0, .slice none 0 0]

set_option maxRecDepth 100000 in
set_option maxHeartbeats 2000000 in
theorem copied_c (q o m : Nat) (ho : o = 0 ∨ o = 5) (t0 t1 t2 t3 : Value) (es : Array MapEntry) (clock : Nat) (w : World) (h0 : w.cell? ⟨q, o, none⟩ = some (.map (some m))) (h1 : w.cell? ⟨q, o + 1, none⟩ = some t0)
    (h2 : w.cell? ⟨q, o + 2, none⟩ = some t1) (h3 : w.cell? ⟨q, o + 3, none⟩ = some t2) (h4 : w.cell? ⟨q, o + 4, none⟩ = some t3) (hm : w.heap[m]? = some (.map es clock)) (h5 : #[t0, t1, t2, t3].all (·.oneCell') = true) :
    Calls Tryz.prog 31 #[.pointer (some ⟨q, o, none⟩)] w fun e w' => e = .returned (.agg #[.map (some (w.heap.size + 1)), t0, t1, t2, t3]) ∧ Below w.heap.size w w' ∧
      w'.heap[w.heap.size + 1]? = some (.map es clock) := by
  have HM := Lib.hid hm
  have H5 := Lib.hid h5
  clear h5
  have ltm : m < w.heap.size := (Array.getElem?_eq_some_iff.1 hm).1
  have lt := block_lt_of_cell h0
  simp only at lt
  have ne : Nonempty (Wd (Below w.heap.size w)) := ⟨⟨w, Below.refl _ _⟩⟩
  clear hm
  rcases ho with rfl | rfl
  all_goals
    have x0 : ∀ x : Wd (Below w.heap.size w), _ := fun x => (x.ok.cell (p := ⟨q, _, none⟩) lt).trans h0
    have x1 : ∀ x : Wd (Below w.heap.size w), _ := fun x => (x.ok.cell (p := ⟨q, _, none⟩) lt).trans h1
    have x2 : ∀ x : Wd (Below w.heap.size w), _ := fun x => (x.ok.cell (p := ⟨q, _, none⟩) lt).trans h2
    have x3 : ∀ x : Wd (Below w.heap.size w), _ := fun x => (x.ok.cell (p := ⟨q, _, none⟩) lt).trans h3
    have x4 : ∀ x : Wd (Below w.heap.size w), _ := fun x => (x.ok.cell (p := ⟨q, _, none⟩) lt).trans h4
    simp only [Nat.zero_add, Nat.reduceAdd] at x0 x1 x2 x3 x4
    go_enter Tryz.func31, Tryz.ntmps31
    go_wp2
    refine wp_region_hoist (fun w' => ∃ x : Wd (Below w.heap.size w), w' = x.world) [] (by kernel_rfl) ?_
    refine wpAnyI_reads [0, 1, 2, 3, 5, 6, 7, 8] 3 _ ⟨⟨_, ((Below.refl _ _).alloc (Nat.le_refl _) _).drew⟩, rfl⟩ (by kernel_rfl) ?_
    simp only [List.filterMap_cons, List.filterMap_nil, List.getElem?_toArray, List.getElem?_cons_succ, List.getElem?_cons_zero]
    repeat (refine wpHoist_step (fun K hK => ?_); simp only [hoists, sameUpon]; go_simp; refine hK _ ?_; clear hK K)
    refine wpHoist_nil ?_
    refine wpAnyI_one 4 2 _ _ rfl (by kernel_rfl) ?_
    refine wpList_plain rfl fun K hK => ?_
    go_simp
    go_at_call 64
    refine (mclone m es clock _ ?_).mono ?_
    · exact (Below.heap_alloc w _ m ltm).trans HM.out
    rintro e w' ⟨rfl, rfl⟩
    refine hK _ _ (wpList_nil ⟨rfl, fun _ => ⟨⟨_, (((Below.refl _ _).alloc (Nat.le_refl _) _).drew.alloc (by simp) _)⟩, rfl⟩, ?_⟩)
    clear hK K
    refine wpAnyI_reads [9] 1 _ ⟨⟨_, (((Below.refl _ _).alloc (Nat.le_refl _) _).drew.alloc (by simp) _)⟩, rfl⟩ (by kernel_rfl) ?_
    simp only [List.filterMap_cons, List.filterMap_nil, List.getElem?_toArray, List.getElem?_cons_succ, List.getElem?_cons_zero]
    repeat (refine wpHoist_step (fun K hK => ?_); simp only [hoists, sameUpon]; go_simp; refine hK _ ?_; clear hK K)
    refine wpHoist_nil ?_
    refine wpAnyI_one 10 0 _ _ rfl (by kernel_rfl) ?_
    have r0 : ((w.alloc (.cells stand0 91)).drew.alloc (.map es clock)).heap[w.heap.size]? = some (.cells stand0 91 (0, 0)) := (Below.heap_alloc _ _ _ (by simp)).trans (heap_alloc_last w _)
    have r1 : ((w.alloc (.cells stand0 91)).drew.alloc (.map es clock)).heap[w.heap.size + 1]? = some (.map es clock) := by
      have := heap_alloc_last (w.alloc (.cells stand0 91)).drew (.map es clock)
      simpa using this
    refine wpList_store_abs rfl 91 (.tmp 2) (.tmp 12) rfl w.heap.size #[.map (some (w.heap.size + 1)), t0, t1, t2, t3] rfl rfl 91 stand0 r0 (by kernel_rfl) (by kernel_rfl) (by have := H5.out; simp at this ⊢; exact ⟨rfl, this⟩) ?_
    intro W1 HW HM1 HS
    have HW1 := Lib.hid ((HM1.block (w.heap.size + 1) (by simp) (by omega)).trans r1)
    have HB : Below w.heap.size w W1 := (((Below.refl _ _).alloc (Nat.le_refl _) _).drew.alloc (by simp) _).trans ⟨HM1.os, HM1.tape, HM1.output, HM1.size, fun k hk => HM1.block k (by simp; omega) (by omega)⟩
    clear r0 r1
    refine wpList_nil ⟨rfl, fun _ => ⟨⟨_, HB⟩, rfl⟩, by kernel_rfl, ?_⟩
    go_wp2
    refine bodyPost_ret (results_cell_row rfl _ _ w.heap.size _ _ _ _ rfl HW.out Tryz.underlying91 rfl (by kernel_rfl)) rfl ?_
    exact ⟨rfl, HB, HW1.out⟩

end Go.Proofs.YtgffifleflkjoaaGreat

namespace Go.Proofs.YtgffifleflkjoaaGreat
open Go.RowKit Dm

abbrev step0 : Value := .agg #[.nilFunc, .nilFunc, .int .i64 0, .int .i64 0, .int .i64 0, .int .i64 0, .string ⟨#[]⟩]
theorem infoStep : (Tryz.prog.info? tStep).map (fun i => (i.zero, i.size, i.bytes)) = some (some step0, 7, 64) := by kernel_rfl

theorem clones_nil (w : World) : Calls Tryz.prog 141 #[.slice none 0 0] w fun e w' => e = .returned (.slice none 0 0) ∧ w = w' := by
  have h1 := Lib.run_eql_slice_nil (P := Tryz.prog)
  go_enter Tryz.func141, Tryz.ntmps141
  go_wp2
  go_ret
  exact ⟨rfl, rfl⟩

theorem addr_add (b o j : Nat) : (⟨b, o, none⟩ : Addr).add j = ⟨b, o + j, none⟩ := by unfold Addr.add; split <;> simp_all

set_option maxRecDepth 100000 in
theorem clones_some (b o n cap : Nat) (cs : List Value) (w : World) (hn : n ≤ 1099511627776) (hl : cs.length = n * 7) (hc : ∀ i x, cs[i]? = some x → w.cell? ⟨b, o + i, none⟩ = some x) (h1 : ∀ u ∈ cs, u.oneCell' = true) :
    Calls Tryz.prog 141 #[.slice (some ⟨b, o, none⟩) n cap] w fun e w' => ∃ v', e = .returned v' ∧ Below w.heap.size w w' ∧ w'.ownsRow w.heap.size tStep 7 v' n cs := by
  obtain ⟨i0, hi, hz0, hz1, hz2⟩ := info_parts infoStep
  have hown : (w.alloc (.cells #[] tStep)).ownsRow w.heap.size tStep 7 (.slice (some ⟨w.heap.size, 0, none⟩) 0 0) 0 [] :=
    ⟨rfl, Or.inr ⟨w.heap.size, 0, #[], rfl, Nat.le_refl _, heap_alloc_last _ _, Nat.le_refl _, Nat.zero_le _, rfl, rfl⟩⟩
  have s2 : ∀ j u, cs[j]? = some u → (w.alloc (.cells #[] tStep)).cell? ((⟨b, o, none⟩ : Addr).add j) = some u := by
    intro j u hj
    have hc := hc j u hj
    rw [addr_add, World.cell?_alloc_past _ _ _ (block_lt_of_cell hc)]
    exact hc
  have HO := Lib.hid hown
  have HI := Lib.hid (And.intro hi (And.intro hz0 (And.intro hz1 hz2)))
  have HS := Lib.hid (And.intro s2 h1)
  clear hc hown hi hz0 hz1 hz2 s2 h1
  have hnil := fun (w : World) (a : Option Addr) (n c : Nat) => Lib.run_eql_slice_nil (P := Tryz.prog) w 93 tStep a n c 0 0 Tryz.underlying93
  go_enter Tryz.func141, Tryz.ntmps141
  go_wp2_with (at_builtin; refine wpList_append_own _ rfl (.tmp 5) (.tmp 6) 93 rfl w.heap.size tStep i0 step0 7 64 Tryz.underlying93 HI.out.1 HI.out.2.1 HI.out.2.2.1 HI.out.2.2.2 rfl (by decide) _ 0 [] rfl HO.out ⟨b, o, none⟩ n cap cs rfl hl HS.out.1 HS.out.2 (by unfold maxLen; omega) (by omega) (by simp) ?_; intro v' w1 hown1 hgrow _)
  go_ret
  refine ⟨_, rfl, (((Below.refl _ _).alloc (Nat.le_refl _) _).grown hgrow (by simp) (fun k e => by cases e; exact Nat.le_refl _)), ?_⟩
  rw [List.nil_append, Nat.zero_add] at hown1
  exact hown1

end Go.Proofs.YtgffifleflkjoaaGreat
