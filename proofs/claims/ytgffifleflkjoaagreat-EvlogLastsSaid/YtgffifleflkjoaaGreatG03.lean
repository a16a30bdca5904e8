/-
  What the steps of a disk do.
  Go's library: a clone of bytes.
  Bytes are appended to a tape.
  A region that draws its order, whose reads may be taken first though other operations make memory.
-/
import Derived.Test.YtgffifleflkjoaaGreatG02
import Derived.Deep.RegionLaw
import Derived.Deep.RegionLawGrows

namespace Go.Proofs.YtgffifleflkjoaaGreat
open Go.RowKit Dm

theorem infoSec : (Tryz.prog.info? tSec).map (·.size) = some 256 := by kernel_rfl

set_option maxRecDepth 100000 in
set_option maxHeartbeats 1000000 in
theorem cut1_a (q bt bn t n b o len cap : Nat) (w : World) (ht : t < 4) (hlen : len ≤ cap) (hcap : cap ≤ 9223372036854775807) (hc : len < n) (hn : n ≤ 1048576)
    (hbt : w.cell? ⟨bt, 0, none⟩ = some (.int .i64 t)) (hbn : w.cell? ⟨bn, 0, none⟩ = some (.int .i64 n)) (hq : w.cell? ⟨q, 1 + t, none⟩ = some (.slice (some ⟨b, o, none⟩) len cap)) (hf : w.frozen? ⟨q, 1 + t, none⟩ = false) :
    Calls Tryz.prog 122 #[.pointer (some ⟨q, 0, none⟩), .pointer (some ⟨bt, 0, none⟩), .pointer (some ⟨bn, 0, none⟩)] w fun e w' =>
      e = .returned (.tuple #[]) ∧ (w.setCell ⟨q, 1 + t, none⟩ (.slice (some ⟨b, o, none⟩) len cap)).drew = w' := by
  have hz : (0 : Int) ≤ (t : Int) := by omega
  have hz4 : (t : Int) < 4 := by omega
  go_enter Tryz.func122, Tryz.ntmps122
  go_wp2
  refine wp_region_tail 21 (by kernel_rfl) (by kernel_rfl) ?_
  simp only [List.take_succ_cons, List.take_zero, List.drop_succ_cons, List.drop_zero]
  repeat still_step
  refine wpStill_nil ?_
  refine wpList_plain rfl fun K hK => ?_
  go_simp
  refine hK _ _ ?_
  simp only [wpList]
  go_end0
  exact ⟨rfl, rfl⟩

set_option maxRecDepth 100000 in
set_option maxHeartbeats 1000000 in
theorem cut1_b (q bt bn t n b o len cap : Nat) (w : World) (ht : t < 4) (hlen : len ≤ cap) (hcap : cap ≤ 9223372036854775807) (hc : n ≤ len) (hn : n ≤ 1048576)
    (hbt : w.cell? ⟨bt, 0, none⟩ = some (.int .i64 t)) (hbn : w.cell? ⟨bn, 0, none⟩ = some (.int .i64 n)) (hq : w.cell? ⟨q, 1 + t, none⟩ = some (.slice (some ⟨b, o, none⟩) len cap)) (hf : w.frozen? ⟨q, 1 + t, none⟩ = false) :
    Calls Tryz.prog 122 #[.pointer (some ⟨q, 0, none⟩), .pointer (some ⟨bt, 0, none⟩), .pointer (some ⟨bn, 0, none⟩)] w fun e w' =>
      e = .returned (.tuple #[]) ∧ (w.setCell ⟨q, 1 + t, none⟩ (.slice (some ⟨b, o, none⟩) n cap)).drew = w' := by
  have hz : (0 : Int) ≤ (t : Int) := by omega
  have hz4 : (t : Int) < 4 := by omega
  have hc2 : ¬ len < n := by omega
  have hc3 : n ≤ cap := by omega
  have hc4 : (n : Int) ≤ (cap : Int) := by omega
  go_enter Tryz.func122, Tryz.ntmps122
  go_wp2
  refine wp_region_tail 21 (by kernel_rfl) (by kernel_rfl) ?_
  simp only [List.take_succ_cons, List.take_zero, List.drop_succ_cons, List.drop_zero]
  repeat still_step
  refine wpStill_nil ?_
  refine wpList_plain rfl fun K hK => ?_
  go_simp
  refine hK _ _ ?_
  simp only [wpList]
  go_end0
  exact ⟨rfl, rfl⟩

set_option maxRecDepth 100000 in
set_option maxHeartbeats 1000000 in
theorem cut1_n (q bt bn t n : Nat) (w : World) (ht : t < 4)  (hn : n ≤ 1048576)
    (hbt : w.cell? ⟨bt, 0, none⟩ = some (.int .i64 t)) (hbn : w.cell? ⟨bn, 0, none⟩ = some (.int .i64 n)) (hq : w.cell? ⟨q, 1 + t, none⟩ = some (.slice none 0 0)) (hf : w.frozen? ⟨q, 1 + t, none⟩ = false) :
    Calls Tryz.prog 122 #[.pointer (some ⟨q, 0, none⟩), .pointer (some ⟨bt, 0, none⟩), .pointer (some ⟨bn, 0, none⟩)] w fun e w' =>
      e = .returned (.tuple #[]) ∧ (w.setCell ⟨q, 1 + t, none⟩ (.slice none 0 0)).drew = w' := by
  have hz : (0 : Int) ≤ (t : Int) := by omega
  have hz4 : (t : Int) < 4 := by omega
  rcases Nat.eq_zero_or_pos n with rfl | hpos
  all_goals
    go_enter Tryz.func122, Tryz.ntmps122
    go_wp2
    refine wp_region_tail 21 (by kernel_rfl) (by kernel_rfl) ?_
    simp only [List.take_succ_cons, List.take_zero, List.drop_succ_cons, List.drop_zero]
    repeat still_step
    refine wpStill_nil ?_
    refine wpList_plain rfl fun K hK => ?_
    go_simp
    refine hK _ _ ?_
    simp only [wpList]
    go_end0
    exact ⟨rfl, rfl⟩

/-- A tape is cut. -/
theorem cut2 (v : Value) (k : Int) (w : World) : Calls Tryz.prog 123 #[v, .int .i64 k] w fun e w' => e = .returned (.tuple #[]) ∧ w = w' := by
  go_enter Tryz.func123, Tryz.ntmps123
  go_wp2
  go_end0
  exact ⟨rfl, rfl⟩

end Go.Proofs.YtgffifleflkjoaaGreat

namespace Go.Proofs.YtgffifleflkjoaaGreat
open Go.RowKit Dm

theorem infoByte : (Tryz.prog.info? tByte).map (fun i => (i.zero, i.size, i.bytes)) = some (some (.int .u8 0), 1, 1) := by kernel_rfl
theorem bval_one (b : UInt8) : (bval b).oneCell' = true := rfl

/-- A call that hands back new bytes. -/
def GivesBytes (w : World) (l : List UInt8) (e : Ending) (w' : World) : Prop := ∃ v', e = .returned v' ∧ Below w.heap.size w w' ∧ BytesAt w'.heap (fun k => w.heap.size ≤ k) v' l

/-- A row that the call owns reads as bytes. -/
theorem bytes_of_owns {w : World} {base : Nat} {v : Value} {n : Nat} {l : List UInt8} (h : w.ownsRow base tByte 1 v n (l.map bval)) (hn : n = l.length) : BytesAt w.heap (fun k => base ≤ k) v l := by
  subst hn
  obtain ⟨_, h⟩ := h
  rcases h with ⟨rfl, h⟩ | ⟨g, cap, cur, rfl, hg, hh, h1, h2, h3, h4⟩
  · exact Or.inl ⟨rfl, by simpa using h⟩
  · refine Or.inr ⟨g, 0, cap, cur, tByte, (0, 0), rfl, h1, by unfold maxLen at h2; omega, hg, hh, fun i x hi => ?_⟩
    have hlt : i < l.length := (List.getElem?_eq_some_iff.1 hi).1
    have e : (cur.toList.take (l.length * 1))[i]? = some (bval x) := by rw [h4]; simp [hi]
    rw [List.getElem?_take, if_pos (by omega)] at e
    rw [Nat.zero_add]
    simpa using e

theorem clone_nil (w : World) : Calls Tryz.prog 98 #[.slice none 0 0] w fun e w' => e = .returned (.slice none 0 0) ∧ w = w' := by
  have h1 := Lib.run_eql_slice_nil (P := Tryz.prog)
  go_enter Tryz.func98, Tryz.ntmps98
  go_wp2
  go_ret
  exact ⟨rfl, rfl⟩

set_option maxRecDepth 100000 in
theorem clone_some (b o cap : Nat) (l : List UInt8) (w : World) (hl : l.length ≤ 1099511627776) (hc : ∀ i x, l[i]? = some x → w.cell? ⟨b, o + i, none⟩ = some (bval x)) :
    Calls Tryz.prog 98 #[.slice (some ⟨b, o, none⟩) l.length cap] w (GivesBytes w l) := by
  obtain ⟨i0, hi, hz0, hz1, hz2⟩ := info_parts infoByte
  have hown : (w.alloc (.cells #[] tByte)).ownsRow w.heap.size tByte 1 (.slice (some ⟨w.heap.size, 0, none⟩) 0 0) 0 [] :=
    ⟨rfl, Or.inr ⟨w.heap.size, 0, #[], rfl, Nat.le_refl _, heap_alloc_last _ _, Nat.le_refl _, Nat.zero_le _, rfl, rfl⟩⟩
  have HC := Lib.hid hc
  have HO := Lib.hid hown
  have HI := Lib.hid (And.intro hi (And.intro hz0 (And.intro hz1 hz2)))
  clear hc hown hi hz0 hz1 hz2
  have s2 : ∀ j u, (l.map bval)[j]? = some u → (w.alloc (.cells #[] tByte)).cell? ((⟨b, o, none⟩ : Addr).add j) = some u := by
    intro j u hj
    obtain ⟨x, hx, rfl⟩ : ∃ x, l[j]? = some x ∧ bval x = u := by simpa using hj
    have hadd : (⟨b, o, none⟩ : Addr).add j = ⟨b, o + j, none⟩ := by unfold Addr.add; split <;> simp_all
    have hc := HC.out j x hx
    rw [hadd, World.cell?_alloc_past _ _ _ (block_lt_of_cell hc)]
    exact hc
  have s3 : ∀ u ∈ l.map bval, u.oneCell' = true := by
    intro u hu
    obtain ⟨x, _, rfl⟩ := List.mem_map.1 hu
    rfl
  have HS := Lib.hid (And.intro s2 s3)
  clear s2 s3
  have hnil := fun (w : World) (a : Option Addr) (n c : Nat) => Lib.run_eql_slice_nil (P := Tryz.prog) w 31 tByte a n c 0 0 Tryz.underlying31
  go_enter Tryz.func98, Tryz.ntmps98
  go_wp2_with (at_builtin; refine wpList_append_own _ rfl (.tmp 5) (.tmp 6) 31 rfl w.heap.size tByte i0 (.int .u8 0) 1 1 Tryz.underlying31 HI.out.1 HI.out.2.1 HI.out.2.2.1 HI.out.2.2.2 rfl (by decide) _ 0 [] rfl HO.out ⟨b, o, none⟩ l.length cap (l.map bval) rfl (by simp) HS.out.1 HS.out.2 (by unfold maxLen; omega) (by omega) (by simp) ?_; intro v' w1 hown1 hgrow _)
  go_ret
  refine ⟨_, rfl, (((Below.refl _ _).alloc (Nat.le_refl _) _).grown hgrow (by simp) (fun k e => by cases e; exact Nat.le_refl _)), ?_⟩
  rw [List.nil_append] at hown1
  exact bytes_of_owns hown1 (by simp)

end Go.Proofs.YtgffifleflkjoaaGreat

namespace Go.Proofs.YtgffifleflkjoaaGreat
open Go.RowKit Dm

theorem own_pos {w : World} {base e size n : Nat} {v : Value} {xs : List Value} (h : w.ownsRow base e size v n xs) (hn : 0 < n) : ∃ g cap, v = .slice (some ⟨g, 0, none⟩) n cap := by
  rcases h.2 with ⟨_, h0⟩ | ⟨g, cap, cur, hv, _⟩
  · omega
  · exact ⟨g, cap, hv⟩

/-- What an append leaves: new bytes in the tape's cell. -/
def TapeNow (w : World) (q t : Nat) (l : List UInt8) (w' : World) : Prop :=
  ∃ v' w1, Below w.heap.size w w1 ∧ BytesAt w1.heap (fun k => w.heap.size ≤ k) v' l ∧ w' = w1.setCell ⟨q, 1 + t, none⟩ v'

set_option maxRecDepth 100000 in
set_option maxHeartbeats 2000000 in
theorem appended1_some (q bt bx t b o len cap b2 o2 cap2 : Nat) (l l2 : List UInt8) (w : World) (ht : t < 4) (hb : len = l.length) (hcap : cap ≤ 9223372036854775807) (hlc : len ≤ cap) (h1 : l.length + l2.length ≤ 1099511627776) (h2 : 0 < l2.length)
    (hbt : w.cell? ⟨bt, 0, none⟩ = some (.int .i64 t)) (hbx : w.cell? ⟨bx, 0, none⟩ = some (.slice (some ⟨b2, o2, none⟩) l2.length cap2)) (hq : w.cell? ⟨q, 1 + t, none⟩ = some (.slice (some ⟨b, o, none⟩) len cap)) (hf : w.frozen? ⟨q, 1 + t, none⟩ = false)
    (hc : ∀ i x, l[i]? = some x → w.cell? ⟨b, o + i, none⟩ = some (bval x)) (hc2 : ∀ i x, l2[i]? = some x → w.cell? ⟨b2, o2 + i, none⟩ = some (bval x)) :
    Calls Tryz.prog 142 #[.pointer (some ⟨q, 0, none⟩), .pointer (some ⟨bt, 0, none⟩), .pointer (some ⟨bx, 0, none⟩)] w fun e w' => e = .returned (.tuple #[]) ∧ TapeNow w q t (l ++ l2) w' := by
  obtain ⟨i0, hi, hz0, hz1, hz2⟩ := info_parts infoByte
  have HI := Lib.hid (And.intro hi (And.intro hz0 (And.intro hz1 hz2)))
  have HC := Lib.hid (And.intro hc hc2)
  have HB := Lib.hid hb
  clear hi hz0 hz1 hz2 hc hc2 hb
  have hz : (0 : Int) ≤ (t : Int) := by omega
  have hz4 : (t : Int) < 4 := by omega
  go_enter Tryz.func142, Tryz.ntmps142
  go_wp2
  go_quiet (fail)
  go_wp2
  have hadd : ∀ (b o j : Nat), (⟨b, o, none⟩ : Addr).add j = ⟨b, o + j, none⟩ := fun b o j => by unfold Addr.add; split <;> simp_all
  have read : ∀ (b o : Nat) (l : List UInt8), (∀ i x, l[i]? = some x → w.cell? ⟨b, o + i, none⟩ = some (bval x)) → ∀ j u, (l.map bval)[j]? = some u → w.cell? ((⟨b, o, none⟩ : Addr).add j) = some u := by
    intro b o l h j u hj
    obtain ⟨x, hx, rfl⟩ : ∃ x, l[j]? = some x ∧ bval x = u := by simpa using hj
    rw [hadd]
    exact h j x hx
  have R1 := Lib.hid (read b o l HC.out.1)
  have R2 := Lib.hid (read b2 o2 l2 HC.out.2)
  have R3 : Hid (∀ u ∈ l2.map bval, u.oneCell' = true) := fun u hu => by
    obtain ⟨x, _, rfl⟩ := List.mem_map.1 hu
    rfl
  clear read hadd
  have lt1 := block_lt_of_cell hbt
  have lt2 := block_lt_of_cell hq
  have ll : ((len : Nat) : Int) ≤ (cap : Int) := by omega
  go_region_law ((refine step_append_grows rfl (.tmp 18) (.tmp 19) 31 rfl tByte i0 (.int .u8 0) 1 1 Tryz.underlying31 HI.out.1 HI.out.2.1 HI.out.2.2.1 HI.out.2.2.2 rfl (by decide) (some ⟨b, o, none⟩) len len (l.map bval) rfl (fun e => by cases e) (by rw [HB.out]; simp) (fun b' e j u hj => by cases e; exact R1.out j u hj) ⟨b2, o2, none⟩ l2.length cap2 (l2.map bval) rfl (by simp) (fun j u hj => R2.out j u hj) R3.out (by omega) (by unfold maxLen; rw [HB.out]; omega) (by rw [HB.out]; omega) ?_; intro v' w1 hown1 hgrow1; obtain ⟨g1, cap1, rfl⟩ := own_pos hown1 (by omega); have k1 : w1.cell? ⟨bt, 0, none⟩ = some (.int .i64 t) := (World.cell?_of_block (w := w) (hgrow1.block bt lt1 (by simp))).trans hbt; have k2 : w1.cell? ⟨q, 1 + t, none⟩ = some (.slice (some ⟨b, o, none⟩) len cap) := (World.cell?_of_block (w := w) (hgrow1.block q lt2 (by simp))).trans hq; have k3 : w1.frozen? ⟨q, 1 + t, none⟩ = false := (World.frozen?_of_block (w := w) (hgrow1.block q lt2 (by simp))).trans hf))
  all_goals
    go_end0
    refine ⟨rfl, _, w1, ⟨hgrow1.os, hgrow1.tape, hgrow1.output, hgrow1.size, fun k hk => hgrow1.block k hk (by simp)⟩, ?_, rfl⟩
    rw [← List.map_append] at hown1
    exact bytes_of_owns hown1 (by rw [HB.out]; simp)

set_option maxRecDepth 100000 in
set_option maxHeartbeats 2000000 in
theorem appended1_nil (q bt bx t b2 o2 cap2 : Nat) (l2 : List UInt8) (w : World) (ht : t < 4) (h1 : l2.length ≤ 1099511627776) (h2 : 0 < l2.length)
    (hbt : w.cell? ⟨bt, 0, none⟩ = some (.int .i64 t)) (hbx : w.cell? ⟨bx, 0, none⟩ = some (.slice (some ⟨b2, o2, none⟩) l2.length cap2)) (hq : w.cell? ⟨q, 1 + t, none⟩ = some (.slice none 0 0)) (hf : w.frozen? ⟨q, 1 + t, none⟩ = false)
    (hc2 : ∀ i x, l2[i]? = some x → w.cell? ⟨b2, o2 + i, none⟩ = some (bval x)) :
    Calls Tryz.prog 142 #[.pointer (some ⟨q, 0, none⟩), .pointer (some ⟨bt, 0, none⟩), .pointer (some ⟨bx, 0, none⟩)] w fun e w' => e = .returned (.tuple #[]) ∧ TapeNow w q t l2 w' := by
  obtain ⟨i0, hi, hz0, hz1, hz2⟩ := info_parts infoByte
  have HI := Lib.hid (And.intro hi (And.intro hz0 (And.intro hz1 hz2)))
  have HC := Lib.hid hc2
  clear hi hz0 hz1 hz2 hc2
  have hz : (0 : Int) ≤ (t : Int) := by omega
  have hz4 : (t : Int) < 4 := by omega
  go_enter Tryz.func142, Tryz.ntmps142
  go_wp2
  go_quiet (fail)
  go_wp2
  have hadd : ∀ (b o j : Nat), (⟨b, o, none⟩ : Addr).add j = ⟨b, o + j, none⟩ := fun b o j => by unfold Addr.add; split <;> simp_all
  have read : ∀ (b o : Nat) (l : List UInt8), (∀ i x, l[i]? = some x → w.cell? ⟨b, o + i, none⟩ = some (bval x)) → ∀ j u, (l.map bval)[j]? = some u → w.cell? ((⟨b, o, none⟩ : Addr).add j) = some u := by
    intro b o l h j u hj
    obtain ⟨x, hx, rfl⟩ : ∃ x, l[j]? = some x ∧ bval x = u := by simpa using hj
    rw [hadd]
    exact h j x hx
  have R2 := Lib.hid (read b2 o2 l2 HC.out)
  have R3 : Hid (∀ u ∈ l2.map bval, u.oneCell' = true) := fun u hu => by
    obtain ⟨x, _, rfl⟩ := List.mem_map.1 hu
    rfl
  clear read hadd
  have lt1 := block_lt_of_cell hbt
  have lt2 := block_lt_of_cell hq
  go_region_law ((refine step_append_grows rfl (.tmp 18) (.tmp 19) 31 rfl tByte i0 (.int .u8 0) 1 1 Tryz.underlying31 HI.out.1 HI.out.2.1 HI.out.2.2.1 HI.out.2.2.2 rfl (by decide) none 0 0 [] rfl (fun _ => ⟨rfl, rfl⟩) rfl (fun b' e j u hj => by cases e) ⟨b2, o2, none⟩ l2.length cap2 (l2.map bval) rfl (by simp) (fun j u hj => R2.out j u hj) R3.out (by omega) (by unfold maxLen; omega) (by omega) ?_; intro v' w1 hown1 hgrow1; obtain ⟨g1, cap1, rfl⟩ := own_pos hown1 (by omega); have k1 : w1.cell? ⟨bt, 0, none⟩ = some (.int .i64 t) := (World.cell?_of_block (w := w) (hgrow1.block bt lt1 (by simp))).trans hbt; have k2 : w1.cell? ⟨q, 1 + t, none⟩ = some (.slice none 0 0) := (World.cell?_of_block (w := w) (hgrow1.block q lt2 (by simp))).trans hq; have k3 : w1.frozen? ⟨q, 1 + t, none⟩ = false := (World.frozen?_of_block (w := w) (hgrow1.block q lt2 (by simp))).trans hf))
  all_goals
    go_end0
    refine ⟨rfl, _, w1, ⟨hgrow1.os, hgrow1.tape, hgrow1.output, hgrow1.size, fun k hk => hgrow1.block k hk (by simp)⟩, ?_, rfl⟩
    have hown2 : w1.ownsRow w.heap.size tByte 1 (.slice (some ⟨g1, 0, none⟩) l2.length cap1) l2.length (l2.map bval) := by simpa using hown1
    first
      | exact bytes_of_owns hown2 rfl
      | (rw [Nat.zero_add]; exact bytes_of_owns hown2 rfl)

set_option maxRecDepth 100000 in
set_option maxHeartbeats 2000000 in
theorem appended1_none (q bt bx t len cap c2 : Nat) (ao a2 : Option Addr) (hao : (ao = none ∧ len = 0 ∧ cap = 0) ∨ ∃ b o : Nat, ao = some ⟨b, o, none⟩) (ha2 : (a2 = none ∧ c2 = 0) ∨ ∃ b o : Nat, a2 = some ⟨b, o, none⟩) (w : World) (ht : t < 4) (hcap : cap ≤ 9223372036854775807) (hlc : len ≤ cap)
    (hbt : w.cell? ⟨bt, 0, none⟩ = some (.int .i64 t)) (hbx : w.cell? ⟨bx, 0, none⟩ = some (.slice a2 0 c2)) (hq : w.cell? ⟨q, 1 + t, none⟩ = some (.slice ao len cap)) (hf : w.frozen? ⟨q, 1 + t, none⟩ = false) :
    Calls Tryz.prog 142 #[.pointer (some ⟨q, 0, none⟩), .pointer (some ⟨bt, 0, none⟩), .pointer (some ⟨bx, 0, none⟩)] w fun e w' => e = .returned (.tuple #[]) ∧ ∃ n, w' = (w.drewN n).setCell ⟨q, 1 + t, none⟩ (.slice ao len len) := by
  have hz : (0 : Int) ≤ (t : Int) := by omega
  have hz4 : (t : Int) < 4 := by omega
  have ll : ((len : Nat) : Int) ≤ (cap : Int) := by omega
  rcases hao with ⟨rfl, rfl, rfl⟩ | ⟨b, o, rfl⟩ <;> rcases ha2 with ⟨rfl, rfl⟩ | ⟨b2, o2, rfl⟩
  all_goals
    go_enter Tryz.func142, Tryz.ntmps142
    go_wp2
    go_quiet (fail)
    go_wp2
    go_region
    all_goals
      go_end0
      exact ⟨rfl, _, rfl⟩

/-- What an append leaves, its bytes new or in F. -/
def TapeIn (w : World) (F : Nat → Prop) (q t : Nat) (l : List UInt8) (w' : World) : Prop :=
  ∃ v' w1, Below w.heap.size w w1 ∧ BytesAt w1.heap (fun k => F k ∨ w.heap.size ≤ k) v' l ∧ w' = w1.setCell ⟨q, 1 + t, none⟩ v'

theorem BytesAt.cells {w : World} {F : Nat → Prop} {a : Option Addr} {n c : Nat} {l : List UInt8} (h : BytesAt w.heap F (.slice a n c) l) :
    n = l.length ∧ l.length ≤ c ∧ c ≤ 9223372036854775807 ∧ ((a = none ∧ n = 0 ∧ c = 0 ∧ l = []) ∨ ∃ b o : Nat, a = some ⟨b, o, none⟩ ∧ ∀ i x, l[i]? = some x → w.cell? ⟨b, o + i, none⟩ = some (bval x)) := by
  rcases h with ⟨h1, rfl⟩ | ⟨b, o, cap, cs, t, fr, h1, h2, h3, g2, g3, g4⟩
  · cases h1
    exact ⟨rfl, Nat.le_refl _, by omega, Or.inl ⟨rfl, rfl, rfl, rfl⟩⟩
  · cases h1
    exact ⟨rfl, h2, h3, Or.inr ⟨b, o, rfl, fun i x hi => (cell_of_row _ _ _ _ _ _ g3).trans (g4 i x hi)⟩⟩

/-- Bytes are appended to a tape. -/
theorem appended1 (q bt bx t : Nat) (v v2 : Value) (l l2 : List UInt8) (F : Nat → Prop) (w : World) (ht : t < 4) (h1 : l.length + l2.length ≤ 1099511627776)
    (hbt : w.cell? ⟨bt, 0, none⟩ = some (.int .i64 t)) (hbx : w.cell? ⟨bx, 0, none⟩ = some v2) (hq : w.cell? ⟨q, 1 + t, none⟩ = some v) (hf : w.frozen? ⟨q, 1 + t, none⟩ = false)
    (hv : BytesAt w.heap F v l) (hv2 : BytesAt w.heap F v2 l2) :
    Calls Tryz.prog 142 #[.pointer (some ⟨q, 0, none⟩), .pointer (some ⟨bt, 0, none⟩), .pointer (some ⟨bx, 0, none⟩)] w fun e w' => e = .returned (.tuple #[]) ∧ TapeIn w F q t (l ++ l2) w' := by
  obtain ⟨a, n, c, rfl⟩ : ∃ a n c, v = .slice a n c := by rcases hv with ⟨rfl, _⟩ | ⟨b, o, cap, cs, t, fr, rfl, _⟩ <;> exact ⟨_, _, _, rfl⟩
  obtain ⟨a2, n2, c2, rfl⟩ : ∃ a n c, v2 = .slice a n c := by rcases hv2 with ⟨rfl, _⟩ | ⟨b, o, cap, cs, t, fr, rfl, _⟩ <;> exact ⟨_, _, _, rfl⟩
  obtain ⟨e1, e2, e3, e4⟩ := hv.cells
  obtain ⟨k1, k2, k3, k4⟩ := hv2.cells
  have up : ∀ w', TapeNow w q t (l ++ l2) w' → TapeIn w F q t (l ++ l2) w' := fun w' ⟨v', w1, x1, x2, x3⟩ => ⟨v', w1, x1, x2.stays (fun _ _ => rfl) (fun _ => Or.inr), x3⟩
  rcases Nat.eq_zero_or_pos l2.length with h0 | h0
  · obtain rfl : l2 = [] := List.eq_nil_of_length_eq_zero h0
    obtain rfl : n2 = 0 := k1
    refine (appended1_none q bt bx t n c c2 a a2 ?_ ?_ w ht e3 (by omega) hbt hbx hq hf).mono ?_
    · rcases e4 with ⟨x1, x2, x3, _⟩ | ⟨b, o, x, _⟩
      · exact Or.inl ⟨x1, x2, x3⟩
      · exact Or.inr ⟨b, o, x⟩
    · rcases k4 with ⟨x1, x2, x3, _⟩ | ⟨b, o, x, _⟩
      · exact Or.inl ⟨x1, x3⟩
      · exact Or.inr ⟨b, o, x⟩
    · rintro e w' ⟨rfl, m, rfl⟩
      refine ⟨rfl, _, w.drewN m, ⟨rfl, rfl, rfl, Nat.le_refl _, fun _ _ => rfl⟩, ?_, rfl⟩
      rw [List.append_nil]
      rcases hv with ⟨x1, rfl⟩ | ⟨b, o, cap, cs, t, fr, x1, x2, x3, g2, g3, g4⟩
      · cases x1
        exact Or.inl ⟨rfl, rfl⟩
      · cases x1
        exact Or.inr ⟨b, o, _, cs, t, fr, rfl, Nat.le_refl _, by omega, Or.inl g2, g3, g4⟩
  · subst k1
    rcases k4 with ⟨_, x2, _⟩ | ⟨b2, o2, rfl, y⟩
    · omega
    · subst e1
      rcases e4 with ⟨rfl, x2, rfl, rfl⟩ | ⟨b, o, rfl, y1⟩
      · refine (appended1_nil q bt bx t b2 o2 c2 l2 w ht (by omega) h0 hbt hbx hq hf y).mono ?_
        rintro e w' ⟨rfl, h⟩
        exact ⟨rfl, up _ h⟩
      · refine (appended1_some q bt bx t b o _ c b2 o2 c2 l l2 w ht rfl e3 e2 h1 h0 hbt hbx hq hf y1 y).mono ?_
        rintro e w' ⟨rfl, h⟩
        exact ⟨rfl, up _ h⟩

end Go.Proofs.YtgffifleflkjoaaGreat

namespace Go.Proofs.YtgffifleflkjoaaGreat
open Go.RowKit

section
variable {P : Program} {ops : Array Oper} {md : Region.Mode} {I : World → Prop} {tail : List Nat}

abbrev noExit : Exit → Act → World → Prop := fun _ _ _ => False

/-- Whatever order is picked; behind each operation but the tail's the world is of the class. -/
def wpAnyI (P : Program) (md : Region.Mode) (ops : Array Oper) (I : World → Prop) (tail : List Nat) (Q : Act → World → Prop) : Nat → Array Bool → Act → World → Prop
  | 0, listed, a, w => Region.ready md ops listed = [] ∧ Q a w
  | f + 1, listed, a, w => (Region.ready md ops listed = [] → Q a w) ∧ ∀ i ∈ Region.ready md ops listed, wpOp P ops noExit i (fun a' w' => (i ∉ tail → I w') ∧ wpAnyI P md ops I tail Q f (listed.setIfInBounds i true) a' w') a w

/-- In state a, in every world of the class, o leaves v and the very world. -/
def YieldsI (P : Program) (ops : Array Oper) (I : World → Prop) (o : Oper) (v : Value) (a : Act) : Prop :=
  (Region.wanted o (yielded ops a.tmps) = true ∧ ∀ w, I w → (execOp a.eval o).run P w = .ok (.value v) w) ∨ (Region.wanted o (yielded ops a.tmps) = false ∧ v = undef)

theorem YieldsI.of_same {o : Oper} {v : Value} {a a' : Act} (hy : YieldsI P ops I o v a) (he : execOp a'.eval o = execOp a.eval o)
    (hw : Region.wanted o (yielded ops a'.tmps) = Region.wanted o (yielded ops a.tmps)) : YieldsI P ops I o v a' := by
  unfold YieldsI at *
  rw [he, hw]
  exact hy

theorem YieldsI.wpOp {i : Nat} {o : Oper} {v : Value} {a : Act} (hi : ops[i]? = some o) (hy : YieldsI P ops I o v a)
    {Q : Exit → Act → World → Prop} {K : Act → World → Prop} {w : World} (hI : I w) (h : K (a.put o.dst v) w) : wpOp P ops Q i K a w := by
  unfold Go.wpOp
  simp only [hi]
  rcases hy with ⟨hw, hv⟩ | ⟨hw, rfl⟩
  · simp only [hw, if_true, Oper.wp, hv w hI, Oper.upon]; exact .inl h
  · simp only [hw, Bool.false_eq_true, if_false]; exact h

theorem wpOpI_put {j : Nat} {oi oj : Oper} {v : Value} (hj : ops[j]? = some oj) (hap : oi.apart ops oj = true)
    (hsi : ∀ cs b, oi.op ≠ .select cs b) (hsj : ∀ cs b, oj.op ≠ .select cs b) {K : Act → World → Prop} {a : Act} {w : World}
    (hy : YieldsI P ops I oi v a) (h : wpOp P ops noExit j K (a.put oi.dst v) w) :
    wpOp P ops noExit j (fun a' w' => YieldsI P ops I oi v a' ∧ K (a'.put oi.dst v) w') a w := by
  obtain ⟨h1, h2, h3⟩ := Oper.apart_spec hap
  have keep : ∀ (a : Act), YieldsI P ops I oi v a → ∀ u, YieldsI P ops I oi v (a.put oj.dst u) := fun a hy u =>
    hy.of_same (execOp_put oi hsi a oj.dst u h3) (wanted_put oi a oj.dst u h3)
  have keepD : ∀ d, YieldsI P ops I oi v { a with defers := d :: a.defers } := fun d => hy.of_same rfl rfl
  unfold wpOp at *
  simp only [hj] at *
  rw [wanted_put oj a oi.dst v h1] at h
  split
  · rename_i hw
    simp only [hw, if_true] at h
    rcases h with h | ⟨hasks, hlets⟩
    case inr => exact .inr ⟨by unfold Oper.asks at *; rw [execOp_put oj hsj a oi.dst v h1] at hasks; exact hasks, hlets⟩
    refine .inl ?_
    unfold Oper.wp at *
    rw [execOp_put oj hsj a oi.dst v h1] at h
    generalize (execOp a.eval oj).run P w = r at *
    cases r with
    | ok n w' =>
      cases n <;> simp only [Oper.upon] at h ⊢
      case value u => exact ⟨keep a hy u, by rw [← Act.put_comm a v u h2]; exact h⟩
      case skip => exact ⟨keep a hy _, by rw [← Act.put_comm a v undef h2]; exact h⟩
      case defer d =>
        refine ⟨keep _ (keepD d) _, ?_⟩
        rw [← Act.put_comm _ v undef h2, ← Act.put_defers]
        exact h
      case enter f args =>
        refine Calls.mono h fun e w'' he => ?_
        cases e with
        | returned u => exact ⟨keep a hy u, by rw [← Act.put_comm a v u h2]; exact he⟩
        | panicked c => exact he
        | outgrown => exact he
      case row row args => exact Rows.mono h fun u w'' he => ⟨keep a hy u, by rw [← Act.put_comm a v u h2]; exact he⟩
    | halt x w' =>
      cases x <;> simp only [Oper.upon] at h ⊢
      case panic u => exact h
  · rename_i hw
    simp only [hw] at h
    exact ⟨keep a hy _, by rw [← Act.put_comm a v undef h2]; exact h⟩

/-- Whatever is listed, what it waits for is. -/
def Closed (md : Region.Mode) (ops : Array Oper) (listed : Array Bool) : Prop :=
  ∀ j oj, ops[j]? = some oj → listed.getD j false = true → ∀ e ∈ oj.after, Region.binds md e = true → listed.getD e.on false = true

theorem Closed.set {listed : Array Bool} {i : Nat} (h : Closed md ops listed) (hi : i ∈ Region.ready md ops listed) : Closed md ops (listed.setIfInBounds i true) := by
  obtain ⟨_, oi, hoi, hall⟩ := mem_ready.1 hi
  intro j oj hj hl e he hb
  by_cases hij : i = j
  · subst hij
    have : oj = oi := Option.some.inj (hj.symm.trans hoi)
    subst this
    exact getD_set_true (hall e he hb)
  · rw [getD_set_ne false hij] at hl
    exact getD_set_true (h j oj hj hl e he hb)

/-- Does t wait for i, by way of others? -/
def waitsB (md : Region.Mode) (ops : Array Oper) : Nat → Nat → Nat → Bool
  | 0, _, _ => false
  | f + 1, t, i => match ops[t]? with
    | some o => o.after.any fun e => Region.binds md e && (e.on == i || waitsB md ops f e.on i)
    | none => false

theorem listed_of_waits {listed : Array Bool} (hc : Closed md ops listed) : ∀ (f t i : Nat), waitsB md ops f t i = true → listed.getD t false = true → listed.getD i false = true
  | 0, _, _, h, _ => by cases h
  | f + 1, t, i, h, ht => by
    simp only [waitsB] at h
    split at h
    · rename_i o ho
      obtain ⟨e, he, hb⟩ := Array.any_eq_true'.1 h
      simp only [Bool.and_eq_true, Bool.or_eq_true, beq_iff_eq] at hb
      have h1 := hc t o ho ht e he hb.1
      rcases hb.2 with h2 | h2
      · rw [← h2]; exact h1
      · exact listed_of_waits hc f e.on i h2 h1
    · cases h

theorem not_ready_of_waits {listed : Array Bool} (hc : Closed md ops listed) {f t i : Nat} (h : waitsB md ops f t i = true) (hi : listed.getD i true = false) : t ∉ Region.ready md ops listed := by
  intro ht
  obtain ⟨_, o, ho, hall⟩ := mem_ready.1 ht
  have hf : listed.getD i false = false := getD_both hi
  cases f with
  | zero => cases h
  | succ f =>
    simp only [waitsB, ho] at h
    obtain ⟨e, he, hb⟩ := Array.any_eq_true'.1 h
    simp only [Bool.and_eq_true, Bool.or_eq_true, beq_iff_eq] at hb
    have h1 := hall e he hb.1
    rcases hb.2 with h2 | h2
    · rw [h2, hf] at h1; cases h1
    · rw [listed_of_waits hc f e.on i h2 h1] at hf; cases hf

theorem wpAnyI_first {Q : Act → World → Prop} {i : Nat} {oi : Oper} {v : Value} (hi : ops[i]? = some oi) (hsel : ∀ (j : Nat) (o : Oper) cs b, ops[j]? = some o → o.op ≠ .select cs b) (g : Nat) (hw : ∀ t ∈ tail, waitsB md ops g t i = true) :
    ∀ (fuel : Nat) (listed : Array Bool) (a : Act) (w : World), Closed md ops listed →
      (∀ j oj, ops[j]? = some oj → j ≠ i → listed.getD j true = false → (∀ e ∈ oj.after, Region.binds md e = true → e.on ≠ i) → oi.apart ops oj = true) →
      i ∈ Region.ready md ops listed → YieldsI P ops I oi v a → I w →
      wpAnyI P md ops I tail Q fuel (listed.setIfInBounds i true) (a.put oi.dst v) w → wpAnyI P md ops I tail Q (fuel + 1) listed a w := by
  intro fuel
  induction fuel with
  | zero =>
    intro listed a w _ _ hr hy hI H
    refine ⟨fun h => (by rw [h] at hr; cases hr), fun j hj => ?_⟩
    by_cases hji : j = i
    · subst hji; exact hy.wpOp hi hI ⟨fun _ => hI, H⟩
    · have := ready_mono hj hji
      rw [H.1] at this
      cases this
  | succ fuel ih =>
    intro listed a w hcl hfree hr hy hI H
    refine ⟨fun h => (by rw [h] at hr; cases hr), fun j hj => ?_⟩
    by_cases hji : j = i
    · subst hji; exact hy.wpOp hi hI ⟨fun _ => hI, H⟩
    · have h1 := H.2 j (ready_mono hj hji)
      obtain ⟨hjun, oj, hoj, hall⟩ := mem_ready.1 hj
      have hun := (mem_ready.1 hr).1
      have hjt : j ∉ tail := fun hm => not_ready_of_waits hcl (hw j hm) hun hj
      have hnot : ∀ e ∈ oj.after, Region.binds md e = true → e.on ≠ i := fun e he hb heq => by
        have h1 := hall e he hb
        rw [heq, getD_both hun] at h1
        cases h1
      have h2 := wpOpI_put hoj (hfree j oj hoj hji hjun hnot) (fun cs b => hsel i oi cs b hi) (fun cs b => hsel j oj cs b hoj) hy h1
      have hfree' : ∀ k ok, ops[k]? = some ok → k ≠ i → (listed.setIfInBounds j true).getD k true = false →
          (∀ e ∈ ok.after, Region.binds md e = true → e.on ≠ i) → oi.apart ops ok = true := fun k ok hk hki hun hno => by
        refine hfree k ok hk hki ?_ hno
        by_cases hjk : j = k
        · subst hjk; exact hjun
        · rw [getD_set_ne true hjk] at hun; exact hun
      refine wpOp_mono (fun a' w' h3 => ⟨fun _ => h3.2.1 hjt, ih (listed.setIfInBounds j true) a' w' (hcl.set hj) hfree' (ready_mono hr (Ne.symm hji)) h3.1 (h3.2.1 hjt) ?_⟩) h2
      rw [Array.setIfInBounds_comm _ _ hji]
      exact h3.2.2

theorem wpOp_out {i : Nat} {a : Act} {w : World} {K K' : Act → World → Prop} {Q' : Exit → Act → World → Prop} (h : ∀ a w, K a w → K' a w) (hh : wpOp P ops noExit i K a w) : wpOp P ops Q' i K' a w := by
  unfold wpOp at *
  split
  · exact h _ _ (by simpa [*] using hh)
  · rename_i o ho
    simp only [ho] at hh
    split
    · rename_i hw
      simp only [hw, if_true] at hh
      rcases hh with hh | ⟨_, _, _, hx⟩
      · refine .inl ?_
        unfold Oper.wp at *
        generalize (execOp a.eval o).run P w = r at *
        cases r with
        | ok n w' =>
          cases n <;> simp only [Oper.upon] at hh ⊢
          case value u => exact h _ _ hh
          case skip => exact h _ _ hh
          case defer d => exact h _ _ hh
          case enter f args =>
            refine Calls.mono hh fun e w'' he => ?_
            cases e with
            | returned u => exact h _ _ he
            | panicked c => exact he.elim
            | outgrown => obtain ⟨_, _, hx⟩ := he; exact hx.elim
          case row row args => exact Rows.mono hh fun u w'' he => h _ _ he
        | halt x w' =>
          cases x <;> simp only [Oper.upon] at hh ⊢
          case panic u => exact hh.elim
      · exact hx.elim
    · rename_i hw
      simp only [hw] at hh
      exact h _ _ hh

theorem wpAny_of_I {Q : Act → World → Prop} {Q' : Exit → Act → World → Prop} (hQ : ∀ a w, Q a w → Q' .normal a w) : ∀ (f : Nat) (listed : Array Bool) (a : Act) (w : World), wpAnyI P md ops I tail Q f listed a w → wpAny P md ops Q' f listed a w
  | 0, _, _, _, h => ⟨h.1, hQ _ _ h.2⟩
  | f + 1, _, _, _, h => ⟨fun h0 => hQ _ _ (h.1 h0), fun i hi => wpOp_out (fun a' w' h' => wpAny_of_I hQ f _ a' w' h'.2) (h.2 i hi)⟩

/-- The one operation that may come up. -/
theorem wpAnyI_only {Q : Act → World → Prop} {f k : Nat} {listed : Array Bool} {a : Act} {w : World} {o : Oper} (ho : ops[k]? = some o) (hr : Region.ready md ops listed = [k])
    (h : wpOp P ops noExit k (fun a' w' => (k ∉ tail → I w') ∧ wpAnyI P md ops I tail Q f (listed.setIfInBounds k true) a' w') a w) : wpAnyI P md ops I tail Q (f + 1) listed a w :=
  ⟨fun h0 => (by rw [hr] at h0; cases h0), fun i hi => by rw [hr] at hi; have e : i = k := (by simpa using hi); subst e; exact h⟩

/-- Here a value, and the very world. -/
def sameUpon (w : World) (v : Value) : Result Next → Prop
  | .ok (.value u) w' => w' = w ∧ u = v
  | _ => False

/-- One value, in every world of the class. -/
def hoists (P : Program) (I : World → Prop) (o : Oper) (a : Act) (next : Act → Prop) : Prop := ∃ v, (∀ w, I w → sameUpon w v ((execOp a.eval o).run P w)) ∧ next (a.put o.dst v)

def wpHoist (P : Program) (ops : Array Oper) (I : World → Prop) (Q : Act → Prop) : List Oper → Act → Prop
  | [], a => Q a
  | o :: rest, a => if Region.wanted o (yielded ops a.tmps) then hoists P I o a (wpHoist P ops I Q rest) else wpHoist P ops I Q rest (a.put o.dst undef)

theorem wpHoist_nil {Q : Act → Prop} {a : Act} (h : Q a) : wpHoist P ops I Q [] a := h

theorem wpHoist_step {Q : Act → Prop} {a : Act} {o : Oper} {rest : List Oper}
    (h : ∀ K : Act → Prop, (∀ a, wpHoist P ops I Q rest a → K a) → if Region.wanted o (yielded ops a.tmps) then hoists P I o a K else K (a.put o.dst undef)) : wpHoist P ops I Q (o :: rest) a :=
  h _ (fun _ h => h)

def hoistB (md : Region.Mode) (ops : Array Oper) (tail : List Nat) : List Nat → Array Bool → Bool
  | [], _ => true
  | k :: r, listed => (Region.ready md ops listed).contains k && Region.free md ops listed k && tail.all (fun t => waitsB md ops ops.size t k) && hoistB md ops tail r (listed.setIfInBounds k true)

/-- Reads that may be taken first. -/
theorem wpAnyI_hoist {Q : Act → World → Prop} (hs : Region.noSelect ops = true) {w : World} (hI : I w) : ∀ (ks : List Nat) (f : Nat) (listed : Array Bool) (a : Act), Closed md ops listed → hoistB md ops tail ks listed = true →
    wpHoist P ops I (fun a' => wpAnyI P md ops I tail Q f (ks.foldl (fun l k => l.setIfInBounds k true) listed) a' w) (ks.filterMap (fun k => ops[k]?)) a → wpAnyI P md ops I tail Q (f + ks.length) listed a w
  | [], f, listed, a, _, _, h => h
  | k :: r, f, listed, a, hc, hB, h => by
    simp only [hoistB, Bool.and_eq_true, List.all_eq_true] at hB
    obtain ⟨⟨⟨h1, h2⟩, h3⟩, h4⟩ := hB
    have hr : k ∈ Region.ready md ops listed := by simpa using h1
    obtain ⟨_, o, ho, _⟩ := mem_ready.1 hr
    simp only [List.filterMap_cons, ho, wpHoist] at h
    have : ∃ v, YieldsI P ops I o v a ∧ wpHoist P ops I (fun a' => wpAnyI P md ops I tail Q f ((k :: r).foldl (fun l k => l.setIfInBounds k true) listed) a' w) (r.filterMap (fun k => ops[k]?)) (a.put o.dst v) := by
      by_cases hw : Region.wanted o (yielded ops a.tmps) = true
      · rw [if_pos hw] at h
        obtain ⟨v, hv, hn⟩ := h
        refine ⟨v, .inl ⟨hw, fun w' hw' => ?_⟩, hn⟩
        have := hv w' hw'
        generalize (execOp a.eval o).run P w' = x at this
        cases x with
        | ok n w2 =>
          cases n <;> simp only [sameUpon] at this
          case value u => rw [this.1, this.2]
        | halt x w2 => simp only [sameUpon] at this
      · rw [if_neg hw] at h
        exact ⟨undef, .inr ⟨by simpa using hw, rfl⟩, h⟩
    obtain ⟨v, hy, hn⟩ := this
    rw [show f + (k :: r).length = (f + r.length) + 1 by simp; omega]
    exact wpAnyI_first ho (Region.noSelect_spec hs) ops.size h3 _ _ _ _ hc (Region.free_spec ho h2) hr hy hI (wpAnyI_hoist hs hI r f _ _ (hc.set hr) h4 hn)

theorem closed_none (n : Nat) : Closed md ops (Array.replicate n false) := fun j oj _ hl => by rw [getD_replicate_false] at hl; cases hl

def closedB (md : Region.Mode) (ops : Array Oper) (listed : Array Bool) : Bool :=
  (List.range ops.size).all fun j => match ops[j]? with
    | some o => !listed.getD j false || o.after.all fun e => !Region.binds md e || listed.getD e.on false
    | none => true
theorem closed_of_B {listed : Array Bool} (h : closedB md ops listed = true) : Closed md ops listed := by
  intro j oj hj hl e he hb
  have h1 := List.all_eq_true.1 h j (List.mem_range.2 (Array.getElem?_eq_some_iff.1 hj).1)
  simp only [hj, hl, Bool.not_true, Bool.false_or] at h1
  have h2 := (Array.all_eq_true_iff_forall_mem.1 h1) e he
  simpa [hb] using h2

/-- Reads first, at a state that is told. -/
theorem wpAnyI_reads {Q : Act → World → Prop} {w : World} {a : Act} (ks : List Nat) (f : Nat) (listed : Array Bool) (hI : I w) (hB : (Region.noSelect ops && closedB md ops listed && hoistB md ops tail ks listed) = true)
    (h : wpHoist P ops I (fun a' => wpAnyI P md ops I tail Q f (ks.foldl (fun l k => l.setIfInBounds k true) listed) a' w) (ks.filterMap (fun k => ops[k]?)) a) : wpAnyI P md ops I tail Q (f + ks.length) listed a w := by
  simp only [Bool.and_eq_true] at hB
  exact wpAnyI_hoist hB.1.1 hI ks f listed a (closed_of_B hB.1.2) hB.2 h

theorem wpOp_of_list {R : Act → World → Prop} {w : World} {a : Act} {k : Nat} {o : Oper} (ho : ops[k]? = some o)
    (h : wpList P ops (fun e a' w' => e = .normal ∧ R a' w') [o] a w) : wpOp P ops noExit k R a w := by
  unfold wpOp
  simp only [ho]
  simp only [wpList] at h
  split
  · rename_i hw
    simp only [hw, if_true] at h
    rcases h with h | ⟨_, _, _, hx⟩
    · refine .inl ?_
      unfold Oper.wp at *
      generalize (execOp a.eval o).run P w = r at *
      cases r with
      | ok n w' =>
        cases n <;> simp only [Oper.upon] at h ⊢
        case value u => exact h.2
        case skip => exact h.2
        case defer d => exact h.2
        case enter f args =>
          refine Calls.mono h fun e w'' he => ?_
          cases e with
          | returned u => exact he.2
          | panicked c => cases he.1
          | outgrown => obtain ⟨_, _, hx⟩ := he; cases hx.1
        case row row args => exact Rows.mono h fun u w'' he => he.2
      | halt x w' =>
        cases x <;> simp only [Oper.upon] at h ⊢
        case panic u => cases h.1
    · cases hx.1
  · rename_i hw
    simp only [hw] at h
    exact h.2

/-- One operation, at a state that is told. -/
theorem wpAnyI_one {Q : Act → World → Prop} {w : World} {a : Act} (k f : Nat) (listed : Array Bool) (o : Oper) (ho : ops[k]? = some o) (hr : Region.ready md ops listed = [k])
    (h : wpList P ops (fun e a' w' => e = .normal ∧ (k ∉ tail → I w') ∧ wpAnyI P md ops I tail Q f (listed.setIfInBounds k true) a' w') [o] a w) : wpAnyI P md ops I tail Q (f + 1) listed a w :=
  wpAnyI_only ho hr (wpOp_of_list ho h)

/-- One of two operations. -/
theorem wpAnyI_two {Q : Act → World → Prop} {w : World} {a : Act} (k k' f : Nat) (listed : Array Bool) (o o' : Oper) (ho : ops[k]? = some o) (ho' : ops[k']? = some o') (hr : Region.ready md ops listed = [k, k'])
    (h : wpList P ops (fun e a' w' => e = .normal ∧ (k ∉ tail → I w') ∧ wpAnyI P md ops I tail Q f (listed.setIfInBounds k true) a' w') [o] a w)
    (h' : wpList P ops (fun e a' w' => e = .normal ∧ (k' ∉ tail → I w') ∧ wpAnyI P md ops I tail Q f (listed.setIfInBounds k' true) a' w') [o'] a w) : wpAnyI P md ops I tail Q (f + 1) listed a w := by
  refine ⟨fun h0 => (by rw [hr] at h0; cases h0), fun i hi => ?_⟩
  rw [hr] at hi
  rcases List.mem_cons.1 hi with rfl | hi
  · exact wpOp_of_list ho h
  · rcases List.mem_cons.1 hi with rfl | hi
    · exact wpOp_of_list ho' h'
    · cases hi

/-- A world of a class. -/
structure Wd (p : World → Prop) where
  world : World
  ok : p world

theorem wpHoist_lookup_run {Q : Act → Prop} {a : Act} {o : Oper} {rest : List Oper} (hgd : o.guard = none) (ty : TypeId) (x y : Operand) (b : Bool) (ho : o.op = .lookup ty x y b) (v : Value)
    (hrun : ∀ w, I w → (Instr.lookup ty (a.eval x) (a.eval y) b).run P w = .ok v w) (h : wpHoist P ops I Q rest (a.put o.dst v)) : wpHoist P ops I Q (o :: rest) a :=
  wpHoist_step fun K hK => by
    simp only [Region.wanted, hgd, if_true]
    refine ⟨v, fun w hw => ?_, hK _ h⟩
    unfold execOp
    simp only [ho, Sem.run_bind, hrun w hw, Result.andThen_ok, Sem.run_pure, sameUpon, and_self]

theorem wpHoist_load_run {Q : Act → Prop} {a : Act} {o : Oper} {rest : List Oper} (hgd : o.guard = none) (ty : TypeId) (x : Operand) (ho : o.op = .load ty x) (v : Value)
    (hrun : ∀ w, I w → (Instr.loadAt ty (a.eval x)).run P w = .ok v w) (h : wpHoist P ops I Q rest (a.put o.dst v)) : wpHoist P ops I Q (o :: rest) a :=
  wpHoist_step fun K hK => by
    simp only [Region.wanted, hgd, if_true]
    refine ⟨v, fun w hw => ?_, hK _ h⟩
    unfold execOp
    simp only [ho, Sem.run_bind, hrun w hw, Result.andThen_ok, Sem.run_pure, sameUpon, and_self]

theorem setRow_moves (w : World) (g : Nat) (c : Array Value) : Moves (fun k => k = g) w (w.setRow g c) :=
  ⟨rfl, rfl, rfl, by simp, fun k _ hk => setRow_other w g k c hk⟩

/-- A whole aggregate stored into its block: the world behind it is told by what it holds. -/
theorem wpList_store_abs {rest : List Oper} {o : Oper} {a : Act} {w : World} {Q : Exit → Act → World → Prop} (hgd : o.guard = none) (ty : TypeId) (x y : Operand) (ho : o.op = .store ty x y)
    (g : Nat) (cells : Array Value) (hx : a.eval x = .pointer (some ⟨g, 0, none⟩)) (hy : a.eval y = .agg cells)
    (t : TypeId) (c : Array Value) (hg : w.heap[g]? = some (.cells c t (0, 0))) (hi : (P.info? ty).map (·.size) = some cells.size)
    (hold : c.size = cells.size) (h1 : cells.all (·.oneCell') = true)
    (h : ∀ W, Hid (W.heap[g]? = some (.cells cells t (0, 0))) → Moves (fun k => k = g) w W → W.heap.size = w.heap.size → wpList P ops Q rest (a.put o.dst undef) W) : wpList P ops Q (o :: rest) a w :=
  wpList_store_row hgd ty x y ho g cells hx hy t c hg hi hold h1 (h _ (setRow_heap w g c cells t (0, 0) hg) (setRow_moves w g cells) (by simp))

/-- The region. -/
theorem wp_region_hoist {id : Nat} {Q : Exit → Act → World → Prop} {a : Act} {w : World} (I : World → Prop) (tail : List Nat) (hm : P.follows .mixedOrders = true)
    (h : wpAnyI P .any ops I tail (fun a' w' => Q .normal a' w') ops.size (Array.replicate ops.size false) a w.drew) : (Code.region id ops true).wp P Q a w :=
  wp_region_any hm (wpAny_of_I (fun _ _ h => h) _ _ _ _ h)

end
end Go.Proofs.YtgffifleflkjoaaGreat
