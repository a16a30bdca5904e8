/-
  Read, Tape.
  append onto a row of the call's own, whatever the source.
  CRC-32C: a sum's bytes.
  slices.Grow of nothing; slices.Concat of one; sealed bytes.
  Sealed bytes; bytes that are the same.
  Sealed bytes opened.
-/
import Derived.Test.YtgffifleflkjoaaGreatG07
import Derived.Test.YtgffifleflkjoaaGreatG11
import Derived.Test.YtgffifleflkjoaaGreatG12
import Derived.Laws.AppendOwnNone
import Derived.Lib.AppendZeros

namespace Go.Proofs.YtgffifleflkjoaaGreat
open Go.RowKit Dm

/-- A slice of bytes of one's own: a whole block from base on. -/
def FreshBytes (h : Array Obj) (base : Nat) (v : Value) (l : List UInt8) : Prop :=
  (v = .slice none 0 0 ∧ l = []) ∨ ∃ (b cap : Nat) (c : Array Value) (t : TypeId), v = .slice (some ⟨b, 0, none⟩) l.length cap ∧ l.length ≤ cap ∧ cap ≤ 9223372036854775807 ∧
    base ≤ b ∧ h[b]? = some (.cells c t (0, 0)) ∧ ∀ (i : Nat) (x : UInt8), l[i]? = some x → c[i]? = some (bval x)

theorem FreshBytes.bytes {h : Array Obj} {base : Nat} {v : Value} {l : List UInt8} (x : FreshBytes h base v l) : BytesAt h (fun k => base ≤ k) v l := by
  rcases x with x | ⟨b, cap, c, t, h1, h2, h3, h4, h5, h6⟩
  · exact Or.inl x
  · exact Or.inr ⟨b, 0, cap, c, t, (0, 0), h1, h2, h3, h4, h5, fun i x hi => by rw [Nat.zero_add]; exact h6 i x hi⟩

theorem FreshBytes.mono {h : Array Obj} {base base' : Nat} {v : Value} {l : List UInt8} (x : FreshBytes h base v l) (hb : base' ≤ base) : FreshBytes h base' v l := by
  rcases x with x | ⟨b, cap, c, t, h1, h2, h3, h4, h5, h6⟩
  · exact Or.inl x
  · exact Or.inr ⟨b, cap, c, t, h1, h2, h3, by omega, h5, h6⟩

theorem fresh_of_owns {w : World} {base : Nat} {v : Value} {n : Nat} {l : List UInt8} (h : w.ownsRow base tByte 1 v n (l.map bval)) (hn : n = l.length) : FreshBytes w.heap base v l := by
  subst hn
  obtain ⟨_, h⟩ := h
  rcases h with ⟨rfl, h⟩ | ⟨g, cap, cur, rfl, hg, hh, h1, h2, h3, h4⟩
  · exact Or.inl ⟨rfl, by simpa using h⟩
  · refine Or.inr ⟨g, cap, cur, tByte, rfl, h1, by unfold maxLen at h2; omega, hg, hh, fun i x hi => ?_⟩
    have hlt : i < l.length := (List.getElem?_eq_some_iff.1 hi).1
    have e : (cur.toList.take (l.length * 1))[i]? = some (bval x) := by rw [h4]; simp [hi]
    rw [List.getElem?_take, if_pos (by omega)] at e
    simpa using e

/-- A call that hands back new bytes. -/
def GivesFresh (w : World) (l : List UInt8) (e : Ending) (w' : World) : Prop := ∃ v', e = .returned v' ∧ Below w.heap.size w w' ∧ FreshBytes w'.heap w.heap.size v' l

set_option maxRecDepth 100000 in
theorem clone_fresh (b o cap : Nat) (l : List UInt8) (w : World) (hl : l.length ≤ 1099511627776) (hc : ∀ i x, l[i]? = some x → w.cell? ⟨b, o + i, none⟩ = some (bval x)) :
    Calls Tryz.prog 98 #[.slice (some ⟨b, o, none⟩) l.length cap] w (GivesFresh w l) := by
  obtain ⟨i0, hi, hz0, hz1, hz2⟩ := info_parts infoByte
  have hown : (w.alloc (.cells #[] tByte)).ownsRow w.heap.size tByte 1 (.slice (some ⟨w.heap.size, 0, none⟩) 0 0) 0 [] :=
    ⟨rfl, Or.inr ⟨w.heap.size, 0, #[], rfl, Nat.le_refl _, heap_alloc_last _ _, Nat.le_refl _, Nat.zero_le _, rfl, rfl⟩⟩
  have HC := Lib.hid hc
  have HO := Lib.hid hown
  have HI := Lib.hid (And.intro hi (And.intro hz0 (And.intro hz1 hz2)))
  clear hc hown hi hz0 hz1 hz2
  have s2 : ∀ j u, (l.map bval)[j]? = some u → (w.alloc (.cells #[] tByte)).cell? ((⟨b, o, none⟩ : Addr).add j) = some u := by
    intro j u hj
    obtain ⟨x, hx, rfl⟩ : ∃ x, l[j]? = some x ∧ bval x = u := by simpa using hj
    have hadd : (⟨b, o, none⟩ : Addr).add j = ⟨b, o + j, none⟩ := by unfold Addr.add; split <;> simp_all
    have hc := HC.out j x hx
    rw [hadd, World.cell?_alloc_past _ _ _ (block_lt_of_cell hc)]
    exact hc
  have s3 : ∀ u ∈ l.map bval, u.oneCell' = true := by
    intro u hu
    obtain ⟨x, _, rfl⟩ := List.mem_map.1 hu
    rfl
  have HS := Lib.hid (And.intro s2 s3)
  clear s2 s3
  have hnil := fun (w : World) (a : Option Addr) (n c : Nat) => Lib.run_eql_slice_nil (P := Tryz.prog) w 31 tByte a n c 0 0 Tryz.underlying31
  go_enter Tryz.func98, Tryz.ntmps98
  go_wp2_with (at_builtin; refine wpList_append_own _ rfl (.tmp 5) (.tmp 6) 31 rfl w.heap.size tByte i0 (.int .u8 0) 1 1 Tryz.underlying31 HI.out.1 HI.out.2.1 HI.out.2.2.1 HI.out.2.2.2 rfl (by decide) _ 0 [] rfl HO.out ⟨b, o, none⟩ l.length cap (l.map bval) rfl (by simp) HS.out.1 HS.out.2 (by unfold maxLen; omega) (by omega) (by simp) ?_; intro v' w1 hown1 hgrow _)
  go_ret
  refine ⟨_, rfl, (((Below.refl _ _).alloc (Nat.le_refl _) _).grown hgrow (by simp) (fun k e => by cases e; exact Nat.le_refl _)), ?_⟩
  rw [List.nil_append] at hown1
  exact fresh_of_owns hown1 (by simp)

theorem clone_f {w : World} {G : Nat → Prop} {v : Value} {l : List UInt8} (x : BytesAt w.heap G v l) (hl : l.length ≤ 1099511627776) : Calls Tryz.prog 98 #[v] w (GivesFresh w l) := by
  rcases x with ⟨rfl, rfl⟩ | ⟨b, o, cap, c, t, fr, rfl, h2, h3, g2, g3, g4⟩
  · refine (clone_nil w).mono ?_
    rintro e w' ⟨rfl, rfl⟩
    exact ⟨_, rfl, Below.refl _ _, Or.inl ⟨rfl, rfl⟩⟩
  · exact clone_fresh b o cap l w hl (fun i x hi => (cell_of_row _ _ _ _ _ _ g3).trans (g4 i x hi))

/-! Tape. -/
theorem tape_none (v : Value) (t : Int) (w : World) (h : NoneD w v) : Calls Tryz.prog 61 #[v, .int .i64 t] w fun e w' => e = .returned (.tuple #[.slice none 0 0, .int .i64 1]) ∧ w = w' := by
  have H := Lib.hid h
  clear h
  go_enter Tryz.func61, Tryz.ntmps61
  go_wp2_with (go_at_call 45; refine (none_c H.out).mono ?_; rintro e w' ⟨rfl, rfl⟩)
  go_ret2
  exact ⟨rfl, rfl⟩

theorem tape_range (p : Nat) (t : Int) (w : World) (h : w.cell? ⟨p, 16, none⟩ = some (.bool true)) (hn : t < 0 ∨ 4 ≤ t) : Calls Tryz.prog 61 #[.pointer (some ⟨p, 0, none⟩), .int .i64 t] w fun e w' => e = .returned (.tuple #[.slice none 0 0, .int .i64 4]) ∧ w = w' := by
  by_cases hn0 : t < 0
  all_goals
    have hn2 : ¬ t < 0 → 4 ≤ t := fun h => by omega
    simp only [hn0, not_true_eq_false, not_false_eq_true, forall_const, false_implies] at hn2
    go_enter Tryz.func61, Tryz.ntmps61
    go_wp2_with (go_at_call 45; refine (none_at p true _ h).mono ?_; rintro e w' ⟨rfl, rfl⟩)
    go_ret2
    exact ⟨rfl, rfl⟩

theorem tape_live (p t : Nat) (v : Value) (l : List UInt8) (w : World) (F : Nat → Prop) (h : w.cell? ⟨p, 16, none⟩ = some (.bool true)) (ht : t < 4) (hq : w.cell? ⟨p, 1 + t, none⟩ = some v) (hv : BytesAt w.heap F v l) (hl : l.length ≤ 1099511627776) :
    Calls Tryz.prog 61 #[.pointer (some ⟨p, 0, none⟩), .int .i64 t] w fun e w' => ∃ v', e = .returned (.tuple #[v', .int .i64 0]) ∧ Below w.heap.size w w' ∧ FreshBytes w'.heap w.heap.size v' l := by
  have h1 : ¬ (t : Int) < 0 := by omega
  have h2 : ¬ 4 ≤ (t : Int) := by omega
  have h4 : (0 : Int) ≤ t := by omega
  have h5 : (t : Int) < 4 := by omega
  have h6 : ¬ 4 ≤ t := by omega
  have H := Lib.hid (clone_f hv hl)
  clear hv
  go_enter Tryz.func61, Tryz.ntmps61
  go_wp2_with (first | (go_at_call 45; refine (none_at p true _ h).mono ?_; rintro e w' ⟨rfl, rfl⟩) | (go_at_call 98; refine H.out.mono ?_; rintro e w' ⟨v', rfl, hb⟩))
  go_ret2
  exact ⟨v', rfl, hb⟩

/-- What a call that tells bytes hands back. -/
def Tells (w : World) (l : List UInt8) (c : Int) (e : Ending) (w' : World) : Prop := ∃ v', e = .returned (.tuple #[v', .int .i64 c]) ∧ Below w.heap.size w w' ∧ FreshBytes w'.heap w.heap.size v' l

theorem tape_c {p m : Nat} {d : D} {F : Nat → Prop} {w : World} (x : DiskAt w.heap p m d F) (t : Int) : Calls Tryz.prog 61 #[.pointer (some ⟨p, 0, none⟩), .int .i64 t] w
    (Tells w (if t < 0 ∨ t > 3 then [] else d.stand.tp t) (if t < 0 ∨ t > 3 then 4 else 0)) := by
  obtain ⟨k16, k11, k12, k13⟩ := x.cell16
  by_cases h1 : t < 0 ∨ t > 3
  · rw [if_pos h1, if_pos h1]
    refine (tape_range p t w k16 (by omega)).mono ?_
    rintro e w' ⟨rfl, rfl⟩
    exact ⟨_, rfl, Below.refl _ _, Or.inl ⟨rfl, rfl⟩⟩
  · rw [if_neg h1, if_neg h1]
    obtain ⟨t, rfl, ht⟩ := natOf (n := t) (k := 3) (by omega) (by omega)
    obtain ⟨ml, l0, l1, l2, l3, wv, stops, after, sa, ra⟩ := x.parts
    obtain ⟨v, hv, hf, bv⟩ := sa.cell.2 t (by omega)
    have := stand_tapes x.ok t
    have := x.ok.room1
    exact tape_live p t v _ w F k16 (by omega) hv bv (by omega)

/-! Read. -/
end Go.Proofs.YtgffifleflkjoaaGreat

namespace Go.Proofs.YtgffifleflkjoaaGreat
open Go.RowKit Dm

/-- A slice of m elements, of so many cells each, that holds the cells news. -/
def SrcAt (w : World) (size : Nat) (v : Value) (m : Nat) (news : List Value) : Prop :=
  (v = .slice none 0 0 ∧ m = 0 ∧ news = []) ∨ ∃ ad c, v = .slice (some ad) m c ∧ news.length = m * size ∧ (∀ (j : Nat) u, news[j]? = some u → w.cell? (ad.add j) = some u) ∧ ∀ u ∈ news, u.oneCell' = true

section
variable {P : Program} {ops : Array Oper}
theorem wpList_append_row {rest : List Oper} {o : Oper} {a : Act} {w : World} {Q : Exit → Act → World → Prop} (hgd : o.guard = none) (s x : Operand) (t : TypeId)
    (ho : o.op = .call { callee := .builtin .append, args := #[s, x], argTypes := #[t, t] })
    (B base : Nat) (w0 : World) (hb : Below B w0 w) (hB : B ≤ base) (e : TypeId) (z : Value) (size bytes : Nat) (ht : P.underlying t = some (.slice e)) (hi : (P.info? e).map (fun i => (i.zero, i.size, i.bytes)) = some (some z, size, bytes))
    (hzs : z.cells.size = size) (hsz : 0 < size)
    (v : Value) (n : Nat) (xs : List Value) (hs : a.eval s = v) (hown : w.ownsRow base e size v n xs)
    (v2 : Value) (m : Nat) (news : List Value) (hx : a.eval x = v2) (hsrc : SrcAt w size v2 m news)
    (h63 : n + m ≤ maxLen) (hbytes : (n + m) * bytes ≤ 140737488355328) (hbase : base ≤ w.heap.size)
    (h : ∀ v' w', Hid (w'.ownsRow base e size v' (n + m) (xs ++ news)) → Below B w0 w' → Below base w w' → wpList P ops Q rest (a.put o.dst v') w') : wpList P ops Q (o :: rest) a w := by
  obtain ⟨i0, hi0, hz0, hz1, hz2⟩ := info_parts hi
  have hob : ∀ k, v.ownBlock = some k → base ≤ k := fun k e => by
    rcases hown.2 with ⟨h, _⟩ | ⟨g, cap, cur, h, hg, _⟩
    · rw [h] at e; cases e
    · rw [h] at e; cases e; exact hg
  rcases hsrc with ⟨rfl, rfl, rfl⟩ | ⟨ad, c, rfl, g1, g2, g3⟩
  · refine wpList_append_own_none hgd s x t ho base e i0 size ht hi0 v n xs hs hown hx (h v w ?_ hb (Below.refl _ _))
    rw [List.append_nil, Nat.add_zero]
    exact hown
  · refine wpList_append_own w hgd s x t ho base e i0 z size bytes ht hi0 hz0 hz1 hz2 hzs hsz v n xs hs hown ad m c news hx g1 g2 g3 h63 hbytes hbase ?_
    intro v' w' ho' hg _
    exact h v' w' ho' (hb.grown hg (by omega) (fun k e => by have := hob k e; omega)) ((Below.refl _ _).grown hg hbase hob)
end

/-- Bytes of one's own. -/
abbrev OwnB (w : World) (base : Nat) (v : Value) (l : List UInt8) : Prop := w.ownsRow base tByte 1 v l.length (l.map bval)

theorem BytesAt.src {w : World} {G : Nat → Prop} {v : Value} {l : List UInt8} (x : BytesAt w.heap G v l) : SrcAt w 1 v l.length (l.map bval) := by
  rcases x with ⟨rfl, rfl⟩ | ⟨b, o, cap, c, t, fr, rfl, h2, h3, g2, g3, g4⟩
  · exact Or.inl ⟨rfl, rfl, rfl⟩
  · refine Or.inr ⟨⟨b, o, none⟩, cap, rfl, by simp, fun j u hj => ?_, fun u hu => ?_⟩
    · obtain ⟨x, hx, rfl⟩ : ∃ x, l[j]? = some x ∧ bval x = u := by simpa using hj
      rw [addr_add, cell_of_row _ _ _ _ _ _ g3]
      exact g4 j x hx
    · obtain ⟨x, _, rfl⟩ := List.mem_map.1 hu
      rfl

theorem own_empty (w : World) : OwnB (w.alloc (.cells #[] tByte)) w.heap.size (.slice (some ⟨w.heap.size, 0, none⟩) 0 0) [] :=
  ⟨rfl, Or.inr ⟨w.heap.size, 0, #[], rfl, Nat.le_refl _, heap_alloc_last _ _, Nat.le_refl _, Nat.zero_le _, rfl, rfl⟩⟩

theorem OwnB.bytes {w : World} {base : Nat} {v : Value} {l : List UInt8} (h : OwnB w base v l) : FreshBytes w.heap base v l := fresh_of_owns h rfl

theorem wpList_append_bytes {ops : Array Oper} {rest : List Oper} {o : Oper} {a : Act} {w : World} {Q : Exit → Act → World → Prop} (hgd : o.guard = none) (s x : Operand)
    (ho : o.op = .call { callee := .builtin .append, args := #[s, x], argTypes := #[tBytes, tBytes] })
    (B base : Nat) (w0 : World) (hb : Below B w0 w) (hB : B ≤ base) (v : Value) (l1 : List UInt8) (hs : a.eval s = v) (hown : OwnB w base v l1)
    (v2 : Value) (l2 : List UInt8) (G : Nat → Prop) (hx : a.eval x = v2) (hsrc : BytesAt w.heap G v2 l2)
    (hl : l1.length + l2.length ≤ 1099511627776) (hbase : base ≤ w.heap.size)
    (h : ∀ v' w', Hid (OwnB w' base v' (l1 ++ l2)) → Below B w0 w' → Below base w w' → wpList Tryz.prog ops Q rest (a.put o.dst v') w') : wpList Tryz.prog ops Q (o :: rest) a w := by
  refine wpList_append_row hgd s x tBytes ho B base w0 hb hB tByte (.int .u8 0) 1 1 Tryz.underlying31 infoByte rfl (by decide) v l1.length (l1.map bval) hs hown v2 l2.length (l2.map bval) hx hsrc.src (by unfold maxLen; omega) (by omega) hbase ?_
  intro v' w' ho' h1 h2
  refine h v' w' ?_ h1 h2
  have := ho'.out
  unfold OwnB
  rw [List.length_append, List.map_append]
  exact this

end Go.Proofs.YtgffifleflkjoaaGreat

namespace Go.Proofs.YtgffifleflkjoaaGreat
open Go.RowKit

theorem low_succ (n k : Nat) : Cm.low n (k + 1) = Cm.low n k ++ [UInt8.ofNat (n / 256 ^ k % 256)] := by
  unfold Cm.low
  rw [List.range_succ, List.map_append]
  rfl

theorem own_nil (w : World) (base : Nat) : OwnB w base (.slice none 0 0) [] := ⟨rfl, Or.inl ⟨rfl, rfl⟩⟩

theorem one_byte (wr : World) (x : Int) (u : UInt8) (h : x = u.toNat) : BytesAt (wr.alloc (.cells #[.int .u8 x] tByte)).heap (fun _ => True) (.slice (some ⟨wr.heap.size, 0, none⟩) 1 1) [u] := by
  refine Or.inr ⟨wr.heap.size, 0, 1, _, _, (0, 0), rfl, Nat.le_refl _, by decide, trivial, heap_alloc_last wr _, fun i y hi => ?_⟩
  match i, hi with
  | 0, hi => cases hi; rw [h]; rfl
  | i + 1, hi => simp at hi

theorem byte_of (n d : Nat) (x : Int) (h : x = ((n / d % 256 : Nat) : Int)) : x = ((UInt8.ofNat (n / d % 256)).toNat : Int) := by
  rw [h, UInt8.toNat_ofNat']
  congr 1
  exact (Nat.mod_eq_of_lt (Nat.mod_lt _ (by decide))).symm

/-- A call that hands back new bytes. -/
def GivesB (w : World) (l : List UInt8) (e : Ending) (w' : World) : Prop := ∃ v, e = .returned v ∧ OwnB w' w.heap.size v l ∧ Below w.heap.size w w'

set_option maxRecDepth 100000 in
set_option maxHeartbeats 2000000 in
theorem crcLow_c (n : Nat) (w : World) (hn : n < 4294967296) : Calls Tryz.prog 171 #[w32 n] w (GivesB w (Cm.low n 4)) := by
  have h0 : (0 : Int) ≤ (n : Int) := by omega
  have h1 : (n : Int) < 4294967296 := by omega
  go_enter Tryz.func171, Tryz.ntmps171
  go_wp2
  go_loopw [2, 3, 4] (fun v _ s wr => ∃ k : Nat, k ≤ 4 ∧ s = .int .i64 (k : Int) ∧ OwnB wr w.heap.size v (Cm.low n k) ∧ Below w.heap.size w wr) (fun _ _ s _ => 4 - (intOf s).toNat)
  case atStart => exact ⟨0, by omega, rfl, own_nil _ _, Below.refl _ _⟩
  case round =>
    obtain ⟨k, hk, rfl, hown, hb⟩ := hrel
    have HO := Lib.hid (And.intro hown hb)
    clear hown hb
    by_cases hlt : k < 4
    · obtain rfl | rfl | rfl | rfl : k = 0 ∨ k = 1 ∨ k = 2 ∨ k = 3 := by omega
      · go_wp2_with (at_builtin; refine wpList_append_bytes rfl (.tmp 7) (.tmp 13) rfl w.heap.size w.heap.size w (HO.out.2.alloc HO.out.2.size _) (Nat.le_refl _) _ (Cm.low n 0) rfl (owns_below HO.out.1 ((Below.refl _ _).alloc (Nat.le_refl _) _) (Nat.le_refl _)) _ [UInt8.ofNat (n / 1 % 256)] (fun _ => True) rfl (one_byte wr _ _ (byte_of n 1 _ (by omega))) (by rw [Cm.low_length]; simp) (by have := HO.out.2.size; simp; omega) ?_; intro v' w2 ho hb1 hb2)
        have H2 := Lib.hid (And.intro ho.out hb1)
        clear ho hb1 hb2
        go_wp2
        go_roundw
        case rel => exact ⟨0 + 1, by omega, by go_num, H2.out.1, H2.out.2⟩
        case measure => simp [intOf]
      · go_wp2_with (at_builtin; refine wpList_append_bytes rfl (.tmp 7) (.tmp 13) rfl w.heap.size w.heap.size w (HO.out.2.alloc HO.out.2.size _) (Nat.le_refl _) _ (Cm.low n 1) rfl (owns_below HO.out.1 ((Below.refl _ _).alloc (Nat.le_refl _) _) (Nat.le_refl _)) _ [UInt8.ofNat (n / 256 % 256)] (fun _ => True) rfl (one_byte wr _ _ (byte_of n 256 _ (by omega))) (by rw [Cm.low_length]; simp) (by have := HO.out.2.size; simp; omega) ?_; intro v' w2 ho hb1 hb2)
        have H2 := Lib.hid (And.intro ho.out hb1)
        clear ho hb1 hb2
        go_wp2
        go_roundw
        case rel => exact ⟨1 + 1, by omega, by go_num, H2.out.1, H2.out.2⟩
        case measure => simp [intOf]
      · go_wp2_with (at_builtin; refine wpList_append_bytes rfl (.tmp 7) (.tmp 13) rfl w.heap.size w.heap.size w (HO.out.2.alloc HO.out.2.size _) (Nat.le_refl _) _ (Cm.low n 2) rfl (owns_below HO.out.1 ((Below.refl _ _).alloc (Nat.le_refl _) _) (Nat.le_refl _)) _ [UInt8.ofNat (n / 65536 % 256)] (fun _ => True) rfl (one_byte wr _ _ (byte_of n 65536 _ (by omega))) (by rw [Cm.low_length]; simp) (by have := HO.out.2.size; simp; omega) ?_; intro v' w2 ho hb1 hb2)
        have H2 := Lib.hid (And.intro ho.out hb1)
        clear ho hb1 hb2
        go_wp2
        go_roundw
        case rel => exact ⟨2 + 1, by omega, by go_num, H2.out.1, H2.out.2⟩
        case measure => simp [intOf]
      · go_wp2_with (at_builtin; refine wpList_append_bytes rfl (.tmp 7) (.tmp 13) rfl w.heap.size w.heap.size w (HO.out.2.alloc HO.out.2.size _) (Nat.le_refl _) _ (Cm.low n 3) rfl (owns_below HO.out.1 ((Below.refl _ _).alloc (Nat.le_refl _) _) (Nat.le_refl _)) _ [UInt8.ofNat (n / 16777216 % 256)] (fun _ => True) rfl (one_byte wr _ _ (byte_of n 16777216 _ (by omega))) (by rw [Cm.low_length]; simp) (by have := HO.out.2.size; simp; omega) ?_; intro v' w2 ho hb1 hb2)
        have H2 := Lib.hid (And.intro ho.out hb1)
        clear ho hb1 hb2
        go_wp2
        go_roundw
        case rel => exact ⟨3 + 1, by omega, by go_num, H2.out.1, H2.out.2⟩
        case measure => simp [intOf]
    · obtain rfl : k = 4 := by omega
      go_wp2
      go_ret
      exact ⟨_, rfl, HO.out.1, HO.out.2⟩

end Go.Proofs.YtgffifleflkjoaaGreat

namespace Go.Proofs.YtgffifleflkjoaaGreat
open Go.RowKit

theorem zeros_size (n : Nat) : (Builtin.zeroCells #[Value.int .u8 0] n).size = n := by simp [Builtin.zeroCells]

set_option maxRecDepth 100000 in
set_option maxHeartbeats 2000000 in
theorem grow_c (n : Nat) (w : World) (hn : n ≤ 1099511627776) : Calls Tryz.prog 215 #[.slice none 0 0, .int .i64 n] w (GivesB w []) := by
  have h0 : (0 : Int) ≤ (n : Int) := by omega
  have h00 : ¬ (n : Int) < 0 := by omega
  have h1 : (n : Int) ≤ 1099511627776 := by omega
  rcases Nat.eq_zero_or_pos n with rfl | hpos
  · go_enter Tryz.func215, Tryz.ntmps215
    go_wp2
    go_ret
    exact ⟨_, rfl, own_nil _ _, Below.refl _ _⟩
  · have hp : (0 : Int) < (n : Int) := by omega
    obtain ⟨i0, hi0, hz0, hz1, hz2⟩ := info_parts infoByte
    have HR := Lib.hid (Lib.run_append_nil_zeros (P := Tryz.prog) w tBytes 3 tBytes tByte i0 (.int .u8 0) .i64 .i64 Tryz.underlying31 Tryz.underlying3 hi0 hz0 n hpos (by rw [hz1]; decide) (by omega) (by rw [hz2]; omega))
    go_enter Tryz.func215, Tryz.ntmps215
    go_wp2_with (at_builtin; refine Lib.wpList_append_run _ rfl (.tmp 20) (.tmp 21) _ _ rfl _ _ rfl rfl _ _ HR.out ?_)
    go_ret
    refine ⟨_, rfl, World.ownsRow_made w _ (grownCap w n 0 tByte) (Nat.le_refl _) (grownCap_le_maxLen w n 0 tByte (by unfold maxLen; omega)) ?_, ((Below.refl _ _).alloc (Nat.le_refl _) _).drew⟩
    have hg := grownCap_ge w n 0 tByte
    rw [Array.size_append, zeros_size, zeros_size]
    omega

theorem OnePart.cell {w w' : World} {F : Nat → Prop} {b : Nat} {v : Value} {l : List UInt8} (h : w.cell? ⟨b, 0, none⟩ = some v ∧ BytesAt w.heap F v l) (hb : Below w.heap.size w w') : w'.cell? ⟨b, 0, none⟩ = some v ∧ BytesAt w'.heap F v l :=
  ⟨(hb.cell (p := ⟨b, 0, none⟩) (block_lt_of_cell h.1)).trans h.1, h.2.below hb⟩

set_option maxRecDepth 100000 in
set_option maxHeartbeats 4000000 in
theorem concat_c {w : World} {F : Nat → Prop} {pv : Value} {l : List UInt8} (h : OnePart w F pv l) (hl : l.length ≤ 1099511627776) : Calls Tryz.prog 205 #[pv] w (GivesB w l) := by
  obtain ⟨b, v, rfl, hc, hv⟩ := h
  obtain ⟨va, vc, rfl⟩ := hv.slice
  have H := Lib.hid (And.intro hc hv)
  clear hv
  generalize hn : l.length = n at *
  have HN := Lib.hid hn
  clear hn
  have n0 : (0 : Int) ≤ (n : Int) := by omega
  have n1 : (n : Int) ≤ 1099511627776 := by omega
  have n2 : ¬ (n : Int) < 0 := by omega
  go_enter Tryz.func205, Tryz.ntmps205
  go_wp2
  go_loop [3, 5, 11] (fun z _ s => ∃ k : Nat, k ≤ 1 ∧ s = .int .i64 (k : Int) ∧ z = .int .i64 (if k = 0 then 0 else (n : Int))) (fun _ _ s => 1 - (intOf s).toNat)
  case atStart => exact ⟨0, by omega, rfl, rfl⟩
  case round =>
    obtain ⟨k, hk, rfl, rfl⟩ := hrel
    obtain rfl | rfl : k = 0 ∨ k = 1 := by omega
    · rw [if_pos rfl]
      go_wp2
      go_round
      case rel => exact ⟨1, by omega, by go_num, by rw [if_neg (by decide)]⟩
      case measure => simp [intOf]
    · rw [if_neg (by decide)]
      clear hc
      go_wp2_with (go_at_call 215; refine (grow_c n w hl).mono ?_; rintro e w1 ⟨gv, rfl, ho1, hb1⟩)
      have H1 := Lib.hid (And.intro ho1 hb1)
      clear ho1 hb1
      go_loopw [6, 8, 27] (fun x _ s wr => ∃ k : Nat, k ≤ 1 ∧ s = .int .i64 (k : Int) ∧ OwnB wr w.heap.size x (if k = 0 then [] else l) ∧ Below w.heap.size w wr) (fun _ _ s _ => 1 - (intOf s).toNat)
      case atStart => exact ⟨0, by omega, rfl, H1.out.1, H1.out.2⟩
      case round =>
        obtain ⟨k, hk, rfl, hown, hb⟩ := hrel
        obtain rfl | rfl : k = 0 ∨ k = 1 := by omega
        · rw [if_pos rfl] at hown
          obtain ⟨c1, c2⟩ := OnePart.cell H.out hb
          have HO := Lib.hid (And.intro hown (And.intro hb c2))
          clear hown hb c2
          go_wp2_with (at_builtin; (refine wpList_append_bytes rfl (.tmp 31) (.tmp 32) rfl w.heap.size w.heap.size w HO.out.2.1 (Nat.le_refl _) _ [] rfl HO.out.1 _ l F rfl HO.out.2.2 (by rw [HN.out]; simpa using hl) HO.out.2.1.size ?_); intro v' w2 ho hb1 hb2)
          have H2 := Lib.hid (And.intro ho.out hb1)
          clear ho hb1 hb2
          go_wp2
          go_roundw
          case rel => exact ⟨1, by omega, by go_num, by simpa using H2.out.1, H2.out.2⟩
          case measure => simp [intOf]
        · rw [if_neg (by decide)] at hown
          have HO := Lib.hid (And.intro hown hb)
          clear hown hb
          go_wp2
          go_ret
          exact ⟨_, rfl, HO.out.1, HO.out.2⟩

end Go.Proofs.YtgffifleflkjoaaGreat

namespace Go.Proofs.YtgffifleflkjoaaGreat
open Go.RowKit

theorem OwnB.at {w : World} {base : Nat} {v : Value} {l : List UInt8} (h : OwnB w base v l) : BytesAt w.heap (fun k => base ≤ k) v l := h.bytes.bytes

set_option maxRecDepth 100000 in
set_option maxHeartbeats 2000000 in
theorem crcSeal_c {w : World} {F : Nat → Prop} {pv : Value} {l : List UInt8} (h : OnePart w F pv l) (hl : l.length ≤ 1000000000) : Calls Tryz.prog 180 #[pv] w (GivesB w (Cm.sealed l)) := by
  have H := Lib.hid h
  have CC := Lib.hid (concat_c h (by omega))
  have hs : Cm.sum l < 4294967296 := by unfold Cm.sum Cm.top; omega
  clear h
  go_enter Tryz.func180, Tryz.ntmps180
  go_wp2_with (first
    | (go_at_call 205; refine CC.out.mono ?_; rintro e w1 ⟨v1, rfl, o1, b1⟩
       have SC := Lib.hid (crcSum_c (H.out.below b1) (by omega))
       have H1 := Lib.hid (And.intro o1 b1)
       clear o1 b1)
    | (go_at_call 172; refine SC.out.mono ?_; rintro e w2 ⟨rfl, b2⟩
       have H2 := Lib.hid (And.intro (owns_below H1.out.1 b2 (Nat.le_refl _)) (H1.out.2.trans (b2.mono H1.out.2.size)))
       clear b2)
    | (go_at_call 171; refine (crcLow_c _ _ hs).mono ?_; rintro e w3 ⟨v3, rfl, o3, b3⟩
       have H3 := Lib.hid (And.intro (owns_below H2.out.1 b3 (Nat.le_refl _)) (And.intro o3 (H2.out.2.trans (b3.mono H2.out.2.size))))
       clear o3 b3)
    | (at_builtin; refine wpList_append_bytes rfl (.tmp 4) (.tmp 7) rfl w.heap.size w.heap.size w H3.out.2.2 (Nat.le_refl _) _ l rfl H3.out.1 _ (Cm.low (Cm.sum l) 4) _ rfl H3.out.2.1.at (by rw [Cm.low_length]; omega) H3.out.2.2.size ?_; intro v' w4 ho hb1 hb2))
  go_ret
  exact ⟨_, rfl, ho.out, hb1⟩

set_option maxRecDepth 100000 in
set_option maxHeartbeats 2000000 in
theorem equal_c {w : World} {F G : Nat → Prop} {u v : Value} {l k : List UInt8} (h1 : BytesAt w.heap F u l) (h2 : BytesAt w.heap G v k) (hl : l.length ≤ 1000000000) (hk : k.length ≤ 1000000000) :
    Calls Tryz.prog 170 #[u, v] w fun e w' => e = .returned (.bool (decide (l = k))) ∧ Below w.heap.size w w' := by
  obtain ⟨ua, uc, rfl⟩ := h1.slice
  obtain ⟨va, vc, rfl⟩ := h2.slice
  have H := Lib.hid (And.intro h1 h2)
  clear h1 h2
  by_cases hne : l.length = k.length
  · generalize hn : l.length = n at *
    rw [← hne]
    have HN := Lib.hid (And.intro hn hne.symm)
    clear hn hne
    go_enter Tryz.func170, Tryz.ntmps170
    go_wp2
    go_loopw [5, 13] (fun _ s wr => ∃ i : Nat, i ≤ n ∧ s = .int .i64 (i : Int) ∧ (∀ j, j < i → l[j]? = k[j]?) ∧ Below w.heap.size w wr) (fun _ s _ => n - (intOf s).toNat)
    case atStart => exact ⟨0, by omega, rfl, fun j hj => absurd hj (by omega), Below.refl _ _⟩
    case round =>
      obtain ⟨i, hi, rfl, hall, hb⟩ := hrel
      by_cases hlt : i < n
      · have i0 : (0 : Int) ≤ (i : Int) := by omega
        have i1 : (i : Int) < (n : Int) := by omega
        obtain ⟨x, hx⟩ : ∃ x, l[i]? = some x := ⟨_, List.getElem?_eq_getElem (by rw [HN.out.1]; exact hlt)⟩
        obtain ⟨y, hy⟩ : ∃ y, k[i]? = some y := ⟨_, List.getElem?_eq_getElem (by rw [HN.out.2]; exact hlt)⟩
        obtain ⟨b, o, rfl, _, hbl, hc⟩ := H.out.1.byte hx
        obtain ⟨b', o', rfl, _, hbl', hc'⟩ := H.out.2.byte hy
        have c1 : ∀ m, (wr.drewN m).cell? ⟨b, o + i, none⟩ = some (.int .u8 x.toNat) := fun m => ((below_drewN hb m).cell (p := ⟨b, o + i, none⟩) hbl).trans hc
        have c2 : ∀ m, (wr.drewN m).cell? ⟨b', o' + i, none⟩ = some (.int .u8 y.toNat) := fun m => ((below_drewN hb m).cell (p := ⟨b', o' + i, none⟩) hbl').trans hc'
        have HA := Lib.hid (And.intro hall (And.intro hb (And.intro hx hy)))
        clear hall hb hx hy hc hc'
        go_upto_region 6 with fail
        by_cases hxy : x = y
        · have HX := Lib.hid hxy
          have e1 : ((x.toNat : Int) != (y.toNat : Int)) = false := by rw [hxy]; simp
          clear hxy
          go_quiet (fail)
          go_wp2
          go_roundw
          case rel => exact ⟨i + 1, by omega, by go_num, fun j hj => by
            by_cases hji : j < i
            · exact HA.out.1 j hji
            · obtain rfl : j = i := by omega
              rw [HA.out.2.2.1, HA.out.2.2.2, HX.out], below_drewN HA.out.2.1 _⟩
          case measure => simp [intOf]; omega
        · have HX := Lib.hid hxy
          have e1 : ((x.toNat : Int) != (y.toNat : Int)) = true := by
            rw [bne_iff_ne]
            exact fun q => hxy (UInt8.toNat_inj.1 (by omega))
          clear hxy
          go_quiet (fail)
          go_wp2
          go_ret
          refine ⟨?_, below_drewN HA.out.2.1 _⟩
          have : ¬ l = k := fun q => HX.out (by
            have e := HA.out.2.2.1
            rw [q, HA.out.2.2.2] at e
            exact (Option.some.inj e).symm)
          rw [decide_eq_false this]
          rfl
      · obtain rfl : i = n := by omega
        have HA := Lib.hid (And.intro hall hb)
        clear hall hb
        go_wp2
        go_ret
        refine ⟨?_, HA.out.2⟩
        have : l = k := List.ext_getElem? fun j => by
          by_cases hj : j < i
          · exact HA.out.1 j hj
          · rw [List.getElem?_eq_none (by rw [HN.out.1]; omega), List.getElem?_eq_none (by rw [HN.out.2]; omega)]
        rw [decide_eq_true this]
        rfl
  · have e1 : ((l.length : Int) != (k.length : Int)) = true := by rw [bne_iff_ne]; omega
    have HE := Lib.hid hne
    clear hne
    go_enter Tryz.func170, Tryz.ntmps170
    go_wp2
    go_ret
    refine ⟨?_, Below.refl _ _⟩
    rw [decide_eq_false (fun q => HE.out (by rw [q]))]
    rfl

end Go.Proofs.YtgffifleflkjoaaGreat

namespace Go.Proofs.YtgffifleflkjoaaGreat
open Go.RowKit

/-- What Open tells. -/
def OpenedB (w : World) (l : List UInt8) (e : Ending) (w' : World) : Prop :=
  Below w.heap.size w w' ∧ match Wm.opened l with
    | none => e = .returned (.tuple #[.slice none 0 0, .int .i64 130])
    | some b => ∃ v, e = .returned (.tuple #[v, .int .i64 0]) ∧ BytesAt w'.heap (fun k => w.heap.size ≤ k) v b

theorem BytesAt.front {h : Array Obj} {F : Nat → Prop} {b o cap : Nat} {l : List UInt8} (x : BytesAt h F (.slice (some ⟨b, o, none⟩) l.length cap) l) {n : Nat} (hn : n ≤ l.length) : BytesAt h F (.slice (some ⟨b, o, none⟩) n cap) (l.take n) := by
  rcases x with ⟨h1, _⟩ | ⟨b', o', cap', c, t, fr, h1, h2, h3, g2, g3, g4⟩
  · cases h1
  · cases h1
    refine Or.inr ⟨b, o, cap, c, t, fr, by rw [List.length_take, Nat.min_eq_left hn], by rw [List.length_take]; omega, h3, g2, g3, fun i y hi => ?_⟩
    rw [List.getElem?_take] at hi
    split at hi
    · exact g4 i y hi
    · cases hi

theorem BytesAt.back {h : Array Obj} {F : Nat → Prop} {b o cap : Nat} {l : List UInt8} (x : BytesAt h F (.slice (some ⟨b, o, none⟩) l.length cap) l) {n : Nat} (hn : n ≤ l.length) : BytesAt h F (.slice (some ⟨b, o + n, none⟩) (l.length - n) (cap - n)) (l.drop n) := by
  rcases x with ⟨h1, _⟩ | ⟨b', o', cap', c, t, fr, h1, h2, h3, g2, g3, g4⟩
  · cases h1
  · cases h1
    refine Or.inr ⟨b, o + n, cap - n, c, t, fr, by rw [List.length_drop], by rw [List.length_drop]; omega, by omega, g2, g3, fun i y hi => ?_⟩
    rw [List.getElem?_drop] at hi
    rw [Nat.add_assoc]
    exact g4 (n + i) y hi

theorem BytesAt.row {h : Array Obj} {F : Nat → Prop} {a : Option Addr} {n cap : Nat} {l : List UInt8} (x : BytesAt h F (.slice a n cap) l) (hn : 0 < l.length) : ∃ b o, a = some ⟨b, o, none⟩ ∧ l.length ≤ cap ∧ cap ≤ 9223372036854775807 ∧ b < h.size := by
  rcases x with ⟨_, rfl⟩ | ⟨b', o', cap', c, t, fr, h1, h2, h3, g2, g3, g4⟩
  · simp at hn
  · cases h1
    exact ⟨b', o', rfl, h2, h3, lt_of_row g3⟩

set_option maxRecDepth 100000 in
set_option maxHeartbeats 4000000 in
theorem crcOpen_c {w : World} {F : Nat → Prop} {v : Value} {l : List UInt8} (h : BytesAt w.heap F v l) (hl : l.length ≤ 1000000000) : Calls Tryz.prog 145 #[v] w (OpenedB w l) := by
  obtain ⟨a, cap, rfl⟩ := h.slice
  have H := Lib.hid h
  clear h
  have l1 : (l.length : Int) ≤ 1000000000 := by omega
  by_cases h4 : l.length < 4
  · have ho : Wm.opened l = none := by unfold Wm.opened; rw [if_pos h4]
    have HO := Lib.hid ho
    have e1 : decide ((l.length : Int) - 4 < 0) = true := by simp; omega
    clear ho
    generalize l.length = n at *
    go_enter Tryz.func145, Tryz.ntmps145
    go_wp2
    go_quiet (fail)
    go_wp2
    go_ret2
    refine ⟨below_drewN (Below.refl _ _) _, ?_⟩
    rw [HO.out]
    rfl
  · obtain ⟨b, o, rfl, hcap, hcap2, hbl⟩ := H.out.row (by omega)
    obtain ⟨n, hn⟩ : ∃ n, l.length = n + 4 := ⟨l.length - 4, by omega⟩
    have front := H.out.front (n := n) (by omega)
    have back := H.out.back (n := n) (by omega)
    have ht : (l.take n).length = n := by rw [List.length_take]; omega
    have hd : (l.drop n).length = 4 := by rw [List.length_drop]; omega
    rw [show l.length - n = 4 by omega] at back
    have P := Lib.hid (And.intro front (And.intro back (And.intro ht hd)))
    have opn : Wm.opened l = if Cm.low (Cm.sum (l.take n)) 4 = l.drop n then some (l.take n) else none := by
      unfold Wm.opened
      rw [if_neg h4, show l.length - 4 = n by omega]
      have e : (Cm.sealed (l.take n) = l) ↔ Cm.low (Cm.sum (l.take n)) 4 = l.drop n := by
        conv => lhs; rhs; rw [← List.take_append_drop n l]
        unfold Cm.sealed
        rw [List.append_cancel_left_eq]
      by_cases q : Cm.low (Cm.sum (l.take n)) 4 = l.drop n
      · rw [if_pos q, if_pos (e.2 q)]
      · rw [if_neg q, if_neg (fun r => q (e.1 r))]
    have OP := Lib.hid opn
    have hs : Cm.sum (l.take n) < 4294967296 := by unfold Cm.sum Cm.top; omega
    have e1 : decide ((n : Int) < 0) = false := by simp
    have n0 : (0 : Int) ≤ (n : Int) := by omega
    have n1 : (n : Int) ≤ (cap : Int) := by omega
    have n2 : ¬ (cap : Int) = (n : Int) := by omega
    have n3 : ¬ cap = n := by omega
    have n4 : n ≤ cap := by omega
    have n5 : n < cap := by omega
    have n6 : (n : Int) ≤ (n : Int) + 4 := by omega
    rw [hn] at l1 hcap ⊢
    have HN := Lib.hid hn
    clear front back ht hd opn h4 hn
    have ne : Nonempty (Wd (Below w.heap.size w)) := ⟨⟨w, Below.refl _ _⟩⟩
    go_enter Tryz.func145, Tryz.ntmps145
    go_upto_region 2 with fail
    refine wp_region_hoist (fun w' => ∃ x : Wd (Below w.heap.size w), w' = x.world) [] (by kernel_rfl) ?_
    refine wpAnyI_reads [0, 1, 2, 3, 4, 5, 9, 10, 11] 6 _ ⟨⟨_, (Below.refl _ _).drew⟩, rfl⟩ (by kernel_rfl) ?_
    simp only [List.filterMap_cons, List.filterMap_nil, List.getElem?_toArray, List.getElem?_cons_succ, List.getElem?_cons_zero]
    iterate 9 (with_reducible refine wpHoist_step (fun K hK => ?_); simp only [hoists, sameUpon]; go_simp; refine hK _ ?_; clear hK K)
    with_reducible refine wpHoist_nil ?_
    refine wpAnyI_one 6 5 _ _ rfl (by kernel_rfl) ?_
    with_reducible refine wpList_step fun K hK => ?_
    go_simp
    have c1 : BytesAt (w.drew).heap F (.slice (some ⟨b, o, none⟩) n cap) (l.take n) := P.out.1
    have op1 : OnePart ((w.alloc (.cells #[.slice (some ⟨b, o, none⟩) n cap] tBytes)).drew) F (.slice (some ⟨w.heap.size, 0, none⟩) 1 1) (l.take n) :=
      ⟨w.heap.size, _, rfl, (cell_of_row _ _ _ _ _ _ (heap_alloc_last w _)).trans rfl, P.out.1.below ((Below.refl _ _).alloc (Nat.le_refl _) _).drew⟩
    have hb3 : Below w.heap.size w ((w.alloc (.cells #[.slice (some ⟨b, o, none⟩) n cap] tBytes)).drew) := ((Below.refl _ _).alloc (Nat.le_refl _) _).drew
    have SC := Lib.hid (crcSum_c op1 (by rw [P.out.2.2.1]; omega))
    have HB3 := Lib.hid hb3
    clear op1 hb3 c1
    refine hK _ _ (wpList_nil ⟨rfl, fun _ => ⟨⟨_, HB3.out⟩, rfl⟩, ?_⟩)
    clear hK K
    refine wpAnyI_one 7 4 _ _ rfl (by kernel_rfl) ?_
    with_reducible refine wpList_step fun K hK => ?_
    go_simp
    go_at_call 172
    refine SC.out.mono ?_
    rintro e w4 ⟨rfl, b4⟩
    have HB4 := Lib.hid (HB3.out.trans (b4.mono HB3.out.size))
    clear b4 SC
    refine hK _ _ (wpList_nil ⟨rfl, fun _ => ⟨⟨_, HB4.out⟩, rfl⟩, ?_⟩)
    clear hK K
    refine wpAnyI_one 8 3 _ _ rfl (by kernel_rfl) ?_
    with_reducible refine wpList_step fun K hK => ?_
    go_simp
    go_at_call 171
    refine (crcLow_c _ _ hs).mono ?_
    rintro e w5 ⟨v5, rfl, o5, b5⟩
    have HB5 := Lib.hid (And.intro (HB4.out.trans (b5.mono HB4.out.size)) o5)
    clear b5 o5
    refine hK _ _ (wpList_nil ⟨rfl, fun _ => ⟨⟨_, HB5.out.1⟩, rfl⟩, ?_⟩)
    clear hK K
    have EQ := Lib.hid (equal_c HB5.out.2.at (P.out.2.1.below HB5.out.1) (by rw [Cm.low_length]; decide) (by rw [P.out.2.2.2]; decide))
    by_cases q : Cm.low (Cm.sum (l.take n)) 4 = l.drop n
    · rw [decide_eq_true q] at EQ
      have OP2 := OP.out
      rw [if_pos q] at OP2
      have OQ := Lib.hid OP2
      clear q OP2
      refine wpAnyI_one 12 2 _ _ rfl (by kernel_rfl) ?_
      with_reducible refine wpList_step fun K hK => ?_
      go_simp
      go_at_call 170
      refine EQ.out.mono ?_
      rintro e w6 ⟨rfl, b6⟩
      have HB6 := Lib.hid (HB5.out.1.trans (b6.mono HB5.out.1.size))
      clear b6
      refine hK _ _ (wpList_nil ⟨rfl, fun _ => ⟨⟨_, HB6.out⟩, rfl⟩, ?_⟩)
      clear hK K
      refine wpAnyI_reads [13, 14] 0 _ ⟨⟨_, HB6.out⟩, rfl⟩ (by kernel_rfl) ?_
      simp only [List.filterMap_cons, List.filterMap_nil, List.getElem?_toArray, List.getElem?_cons_succ, List.getElem?_cons_zero]
      iterate 2 (with_reducible refine wpHoist_step (fun K hK => ?_); simp only [hoists, sameUpon]; go_simp; refine hK _ ?_; clear hK K)
      with_reducible refine wpHoist_nil ?_
      refine ⟨by kernel_rfl, ?_⟩
      have CL := Lib.hid (clone_c (P.out.1.below HB6.out) (by rw [P.out.2.2.1]; omega))
      go_wp2_with fail
      refine CL.out.mono ?_
      rintro e w7 ⟨v7, rfl, b7, y7⟩
      have Y7 := Lib.hid (And.intro b7 y7)
      clear b7 y7
      go_wp2
      go_ret2
      have z6 := HB6.out.size
      refine ⟨HB6.out.trans (Y7.out.1.mono z6), ?_⟩
      rw [OQ.out]
      exact ⟨v7, rfl, Y7.out.2.keeps (fun _ _ _ => rfl) (fun k hk _ => Nat.le_trans z6 hk)⟩
    · rw [decide_eq_false q] at EQ
      have OP2 := OP.out
      rw [if_neg q] at OP2
      have OQ := Lib.hid OP2
      clear q OP2
      refine wpAnyI_one 12 2 _ _ rfl (by kernel_rfl) ?_
      with_reducible refine wpList_step fun K hK => ?_
      go_simp
      go_at_call 170
      refine EQ.out.mono ?_
      rintro e w6 ⟨rfl, b6⟩
      have HB6 := Lib.hid (HB5.out.1.trans (b6.mono HB5.out.1.size))
      clear b6
      refine hK _ _ (wpList_nil ⟨rfl, fun _ => ⟨⟨_, HB6.out⟩, rfl⟩, ?_⟩)
      clear hK K
      refine wpAnyI_reads [13, 14] 0 _ ⟨⟨_, HB6.out⟩, rfl⟩ (by kernel_rfl) ?_
      simp only [List.filterMap_cons, List.filterMap_nil, List.getElem?_toArray, List.getElem?_cons_succ, List.getElem?_cons_zero]
      iterate 2 (with_reducible refine wpHoist_step (fun K hK => ?_); simp only [hoists, sameUpon]; go_simp; refine hK _ ?_; clear hK K)
      with_reducible refine wpHoist_nil ?_
      refine ⟨by kernel_rfl, ?_⟩
      go_wp2
      go_ret2
      refine ⟨HB6.out, ?_⟩
      rw [OQ.out]
      rfl

end Go.Proofs.YtgffifleflkjoaaGreat
