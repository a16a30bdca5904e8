/-
  Read, Tape.
  append onto a row of the call's own, whatever the source.
  Stop, Used.
  New.
-/
import Derived.Test.YtiefhmbpaoecfaaG08
import Derived.Laws.AppendOwnNone

namespace Go.Proofs.Ytiefhmbpaoecfaa
open Go.RowKit Dm

/-- A slice of bytes of one's own: a whole block from base on. -/
def FreshBytes (h : Array Obj) (base : Nat) (v : Value) (l : List UInt8) : Prop :=
  (v = .slice none 0 0 ∧ l = []) ∨ ∃ (b cap : Nat) (c : Array Value) (t : TypeId), v = .slice (some ⟨b, 0, none⟩) l.length cap ∧ l.length ≤ cap ∧ cap ≤ 9223372036854775807 ∧
    base ≤ b ∧ h[b]? = some (.cells c t (0, 0)) ∧ ∀ (i : Nat) (x : UInt8), l[i]? = some x → c[i]? = some (bval x)

theorem FreshBytes.bytes {h : Array Obj} {base : Nat} {v : Value} {l : List UInt8} (x : FreshBytes h base v l) : BytesAt h (fun k => base ≤ k) v l := by
  rcases x with x | ⟨b, cap, c, t, h1, h2, h3, h4, h5, h6⟩
  · exact Or.inl x
  · exact Or.inr ⟨b, 0, cap, c, t, (0, 0), h1, h2, h3, h4, h5, fun i x hi => by rw [Nat.zero_add]; exact h6 i x hi⟩

theorem FreshBytes.mono {h : Array Obj} {base base' : Nat} {v : Value} {l : List UInt8} (x : FreshBytes h base v l) (hb : base' ≤ base) : FreshBytes h base' v l := by
  rcases x with x | ⟨b, cap, c, t, h1, h2, h3, h4, h5, h6⟩
  · exact Or.inl x
  · exact Or.inr ⟨b, cap, c, t, h1, h2, h3, by omega, h5, h6⟩

theorem fresh_of_owns {w : World} {base : Nat} {v : Value} {n : Nat} {l : List UInt8} (h : w.ownsRow base tByte 1 v n (l.map bval)) (hn : n = l.length) : FreshBytes w.heap base v l := by
  subst hn
  obtain ⟨_, h⟩ := h
  rcases h with ⟨rfl, h⟩ | ⟨g, cap, cur, rfl, hg, hh, h1, h2, h3, h4⟩
  · exact Or.inl ⟨rfl, by simpa using h⟩
  · refine Or.inr ⟨g, cap, cur, tByte, rfl, h1, by unfold maxLen at h2; omega, hg, hh, fun i x hi => ?_⟩
    have hlt : i < l.length := (List.getElem?_eq_some_iff.1 hi).1
    have e : (cur.toList.take (l.length * 1))[i]? = some (bval x) := by rw [h4]; simp [hi]
    rw [List.getElem?_take, if_pos (by omega)] at e
    simpa using e

/-- A call that hands back new bytes. -/
def GivesFresh (w : World) (l : List UInt8) (e : Ending) (w' : World) : Prop := ∃ v', e = .returned v' ∧ Below w.heap.size w w' ∧ FreshBytes w'.heap w.heap.size v' l

set_option maxRecDepth 100000 in
theorem clone_fresh (b o cap : Nat) (l : List UInt8) (w : World) (hl : l.length ≤ 1099511627776) (hc : ∀ i x, l[i]? = some x → w.cell? ⟨b, o + i, none⟩ = some (bval x)) :
    Calls Try.prog 43 #[.slice (some ⟨b, o, none⟩) l.length cap] w (GivesFresh w l) := by
  obtain ⟨i0, hi, hz0, hz1, hz2⟩ := info_parts infoByte
  have hown : (w.alloc (.cells #[] tByte)).ownsRow w.heap.size tByte 1 (.slice (some ⟨w.heap.size, 0, none⟩) 0 0) 0 [] :=
    ⟨rfl, Or.inr ⟨w.heap.size, 0, #[], rfl, Nat.le_refl _, heap_alloc_last _ _, Nat.le_refl _, Nat.zero_le _, rfl, rfl⟩⟩
  have HC := Lib.hid hc
  have HO := Lib.hid hown
  have HI := Lib.hid (And.intro hi (And.intro hz0 (And.intro hz1 hz2)))
  clear hc hown hi hz0 hz1 hz2
  have s2 : ∀ j u, (l.map bval)[j]? = some u → (w.alloc (.cells #[] tByte)).cell? ((⟨b, o, none⟩ : Addr).add j) = some u := by
    intro j u hj
    obtain ⟨x, hx, rfl⟩ : ∃ x, l[j]? = some x ∧ bval x = u := by simpa using hj
    have hadd : (⟨b, o, none⟩ : Addr).add j = ⟨b, o + j, none⟩ := by unfold Addr.add; split <;> simp_all
    have hc := HC.out j x hx
    rw [hadd, World.cell?_alloc_past _ _ _ (block_lt_of_cell hc)]
    exact hc
  have s3 : ∀ u ∈ l.map bval, u.oneCell' = true := by
    intro u hu
    obtain ⟨x, _, rfl⟩ := List.mem_map.1 hu
    rfl
  have HS := Lib.hid (And.intro s2 s3)
  clear s2 s3
  have hnil := fun (w : World) (a : Option Addr) (n c : Nat) => Lib.run_eql_slice_nil (P := Try.prog) w 36 tByte a n c 0 0 Try.underlying36
  go_enter Try.func43, Try.ntmps43
  go_wp2_with (at_builtin; refine wpList_append_own _ rfl (.tmp 5) (.tmp 6) 36 rfl w.heap.size tByte i0 (.int .u8 0) 1 1 Try.underlying36 HI.out.1 HI.out.2.1 HI.out.2.2.1 HI.out.2.2.2 rfl (by decide) _ 0 [] rfl HO.out ⟨b, o, none⟩ l.length cap (l.map bval) rfl (by simp) HS.out.1 HS.out.2 (by unfold maxLen; omega) (by omega) (by simp) ?_; intro v' w1 hown1 hgrow _)
  go_ret
  refine ⟨_, rfl, (((Below.refl _ _).alloc (Nat.le_refl _) _).grown hgrow (by simp) (fun k e => by cases e; exact Nat.le_refl _)), ?_⟩
  rw [List.nil_append] at hown1
  exact fresh_of_owns hown1 (by simp)

theorem clone_f {w : World} {G : Nat → Prop} {v : Value} {l : List UInt8} (x : BytesAt w.heap G v l) (hl : l.length ≤ 1099511627776) : Calls Try.prog 43 #[v] w (GivesFresh w l) := by
  rcases x with ⟨rfl, rfl⟩ | ⟨b, o, cap, c, t, fr, rfl, h2, h3, g2, g3, g4⟩
  · refine (clone_nil w).mono ?_
    rintro e w' ⟨rfl, rfl⟩
    exact ⟨_, rfl, Below.refl _ _, Or.inl ⟨rfl, rfl⟩⟩
  · exact clone_fresh b o cap l w hl (fun i x hi => (cell_of_row _ _ _ _ _ _ g3).trans (g4 i x hi))

/-! Tape. -/
theorem tape_none (v : Value) (t : Int) (w : World) (h : NoneD w v) : Calls Try.prog 19 #[v, .int .i64 t] w fun e w' => e = .returned (.tuple #[.slice none 0 0, .int .i64 1]) ∧ w = w' := by
  have H := Lib.hid h
  clear h
  go_enter Try.func19, Try.ntmps19
  go_wp2_with (go_at_call 33; refine (none_c H.out).mono ?_; rintro e w' ⟨rfl, rfl⟩)
  go_ret2
  exact ⟨rfl, rfl⟩

theorem tape_range (p : Nat) (t : Int) (w : World) (h : w.cell? ⟨p, 16, none⟩ = some (.bool true)) (hn : t < 0 ∨ 4 ≤ t) : Calls Try.prog 19 #[.pointer (some ⟨p, 0, none⟩), .int .i64 t] w fun e w' => e = .returned (.tuple #[.slice none 0 0, .int .i64 4]) ∧ w = w' := by
  by_cases hn0 : t < 0
  all_goals
    have hn2 : ¬ t < 0 → 4 ≤ t := fun h => by omega
    simp only [hn0, not_true_eq_false, not_false_eq_true, forall_const, false_implies] at hn2
    go_enter Try.func19, Try.ntmps19
    go_wp2_with (go_at_call 33; refine (none_at p true _ h).mono ?_; rintro e w' ⟨rfl, rfl⟩)
    go_ret2
    exact ⟨rfl, rfl⟩

theorem tape_live (p t : Nat) (v : Value) (l : List UInt8) (w : World) (F : Nat → Prop) (h : w.cell? ⟨p, 16, none⟩ = some (.bool true)) (ht : t < 4) (hq : w.cell? ⟨p, 1 + t, none⟩ = some v) (hv : BytesAt w.heap F v l) (hl : l.length ≤ 1099511627776) :
    Calls Try.prog 19 #[.pointer (some ⟨p, 0, none⟩), .int .i64 t] w fun e w' => ∃ v', e = .returned (.tuple #[v', .int .i64 0]) ∧ Below w.heap.size w w' ∧ FreshBytes w'.heap w.heap.size v' l := by
  have h1 : ¬ (t : Int) < 0 := by omega
  have h2 : ¬ 4 ≤ (t : Int) := by omega
  have h4 : (0 : Int) ≤ t := by omega
  have h5 : (t : Int) < 4 := by omega
  have h6 : ¬ 4 ≤ t := by omega
  have H := Lib.hid (clone_f hv hl)
  clear hv
  go_enter Try.func19, Try.ntmps19
  go_wp2_with (first | (go_at_call 33; refine (none_at p true _ h).mono ?_; rintro e w' ⟨rfl, rfl⟩) | (go_at_call 43; refine H.out.mono ?_; rintro e w' ⟨v', rfl, hb⟩))
  go_ret2
  exact ⟨v', rfl, hb⟩

/-- What a call that tells bytes hands back. -/
def Tells (w : World) (l : List UInt8) (c : Int) (e : Ending) (w' : World) : Prop := ∃ v', e = .returned (.tuple #[v', .int .i64 c]) ∧ Below w.heap.size w w' ∧ FreshBytes w'.heap w.heap.size v' l

theorem tape_c {p m : Nat} {d : D} {F : Nat → Prop} {w : World} (x : DiskAt w.heap p m d F) (t : Int) : Calls Try.prog 19 #[.pointer (some ⟨p, 0, none⟩), .int .i64 t] w
    (Tells w (if t < 0 ∨ t > 3 then [] else d.stand.tp t) (if t < 0 ∨ t > 3 then 4 else 0)) := by
  obtain ⟨k16, k11, k12, k13⟩ := x.cell16
  by_cases h1 : t < 0 ∨ t > 3
  · rw [if_pos h1, if_pos h1]
    refine (tape_range p t w k16 (by omega)).mono ?_
    rintro e w' ⟨rfl, rfl⟩
    exact ⟨_, rfl, Below.refl _ _, Or.inl ⟨rfl, rfl⟩⟩
  · rw [if_neg h1, if_neg h1]
    obtain ⟨t, rfl, ht⟩ := natOf (n := t) (k := 3) (by omega) (by omega)
    obtain ⟨ml, l0, l1, l2, l3, wv, stops, after, sa, ra⟩ := x.parts
    obtain ⟨v, hv, hf, bv⟩ := sa.cell.2 t (by omega)
    have := stand_tapes x.ok t
    have := x.ok.room1
    exact tape_live p t v _ w F k16 (by omega) hv bv (by omega)

/-! Read. -/
theorem read_none (v : Value) (t : Int) (w : World) (h : NoneD w v) : Calls Try.prog 17 #[v, .int .i64 t] w fun e w' => e = .returned (.tuple #[.slice none 0 0, .int .i64 1]) ∧ w = w' := by
  have H := Lib.hid h
  clear h
  go_enter Try.func17, Try.ntmps17
  go_wp2_with (go_at_call 33; refine (none_c H.out).mono ?_; rintro e w' ⟨rfl, rfl⟩)
  go_ret2
  exact ⟨rfl, rfl⟩

theorem read_range (p : Nat) (n many : Int) (w : World) (h : w.cell? ⟨p, 16, none⟩ = some (.bool true)) (h2 : w.cell? ⟨p, 11, none⟩ = some (.int .i64 many)) (hn : n < 0 ∨ many ≤ n) :
    Calls Try.prog 17 #[.pointer (some ⟨p, 0, none⟩), .int .i64 n] w fun e w' => e = .returned (.tuple #[.slice none 0 0, .int .i64 4]) ∧ w = w' := by
  by_cases hn0 : n < 0
  all_goals
    have hn2 : ¬ n < 0 → many ≤ n := fun h => by omega
    simp only [hn0, not_true_eq_false, not_false_eq_true, forall_const, false_implies] at hn2
    go_enter Try.func17, Try.ntmps17
    go_wp2_with (go_at_call 33; refine (none_at p true _ h).mono ?_; rintro e w' ⟨rfl, rfl⟩)
    go_ret2
    exact ⟨rfl, rfl⟩

set_option maxRecDepth 100000 in
set_option maxHeartbeats 1000000 in
theorem read_live (p m : Nat) (n many : Int) (f : Int → List UInt8) (w : World) (h : w.cell? ⟨p, 16, none⟩ = some (.bool true)) (h2 : w.cell? ⟨p, 11, none⟩ = some (.int .i64 many)) (h0 : w.cell? ⟨p, 0, none⟩ = some (.map (some m))) (hn0 : ¬ n < 0) (hn1 : ¬ many ≤ n)
    (hm : SecMap w.heap m f) (hl : (f n).length = 256) :
    Calls Try.prog 17 #[.pointer (some ⟨p, 0, none⟩), .int .i64 n] w (Tells w (f n) 0) := by
  have hlk := run_look_sec hm n
  clear hm
  have ha : (Try.prog.info? tSec).map (·.size) = some ((f n).map bval).toArray.size := by rw [infoSec]; simp [hl]
  have HA := Lib.hid ha
  have HL := Lib.hid hl
  clear ha hl
  generalize f n = l at *
  go_enter Try.func17, Try.ntmps17
  go_wp2_with (first
    | (go_at_call 33; refine (none_at p true _ h).mono ?_; rintro e w' ⟨rfl, rfl⟩)
    | (refine wpList_store_abs rfl tSec (.tmp 6) (.tmp 27) rfl w.heap.size (l.map bval).toArray rfl rfl tSec Try.zeroCells86 (heap_alloc_last w _) HA.out (by simp only [List.size_toArray, List.length_map, HL.out]; kernel_rfl) (all_bvals _) ?_
       intro W1 HW HM1 HS))
  go_ret2
  refine ⟨.slice (some ⟨w.heap.size, 0, none⟩) 256 256, rfl, Moves.new ((Below.refl _ _).alloc (Nat.le_refl _) _) HM1 (Nat.le_refl _), Or.inr ⟨w.heap.size, 256, _, tSec, by rw [HL.out], by rw [HL.out]; exact Nat.le_refl _, by decide, Nat.le_refl _, HW.out, fun i x hi => by simp [hi]⟩⟩

theorem read_c {p m : Nat} {d : D} {F : Nat → Prop} {w : World} (x : DiskAt w.heap p m d F) (n : Int) : Calls Try.prog 17 #[.pointer (some ⟨p, 0, none⟩), .int .i64 n] w
    (Tells w (if n < 0 ∨ n ≥ d.many then [] else d.stand.sec n) (if n < 0 ∨ n ≥ d.many then 4 else 0)) := by
  obtain ⟨k16, k11, k12, k13⟩ := x.cell16
  by_cases h1 : n < 0 ∨ n ≥ d.many
  · rw [if_pos h1, if_pos h1]
    refine (read_range p n d.many w k16 k11 h1).mono ?_
    rintro e w' ⟨rfl, rfl⟩
    exact ⟨_, rfl, Below.refl _ _, Or.inl ⟨rfl, rfl⟩⟩
  · rw [if_neg h1, if_neg h1]
    obtain ⟨ml, l0, l1, l2, l3, wv, stops, after, sa, ra⟩ := x.parts
    obtain ⟨k0, _⟩ := sa.cell
    obtain ⟨t0, t1, t2, t3, c1, c4, _⟩ := sa
    exact read_live p m n d.many d.stand.sec w k16 k11 k0 (by omega) (by omega) c4 (stand_secs x.ok n)

end Go.Proofs.Ytiefhmbpaoecfaa

namespace Go.Proofs.Ytiefhmbpaoecfaa
open Go.RowKit Dm

/-- A slice of m elements, of so many cells each, that holds the cells news. -/
def SrcAt (w : World) (size : Nat) (v : Value) (m : Nat) (news : List Value) : Prop :=
  (v = .slice none 0 0 ∧ m = 0 ∧ news = []) ∨ ∃ ad c, v = .slice (some ad) m c ∧ news.length = m * size ∧ (∀ (j : Nat) u, news[j]? = some u → w.cell? (ad.add j) = some u) ∧ ∀ u ∈ news, u.oneCell' = true

section
variable {P : Program} {ops : Array Oper}
theorem wpList_append_row {rest : List Oper} {o : Oper} {a : Act} {w : World} {Q : Exit → Act → World → Prop} (hgd : o.guard = none) (s x : Operand) (t : TypeId)
    (ho : o.op = .call { callee := .builtin .append, args := #[s, x], argTypes := #[t, t] })
    (B base : Nat) (w0 : World) (hb : Below B w0 w) (hB : B ≤ base) (e : TypeId) (z : Value) (size bytes : Nat) (ht : P.underlying t = some (.slice e)) (hi : (P.info? e).map (fun i => (i.zero, i.size, i.bytes)) = some (some z, size, bytes))
    (hzs : z.cells.size = size) (hsz : 0 < size)
    (v : Value) (n : Nat) (xs : List Value) (hs : a.eval s = v) (hown : w.ownsRow base e size v n xs)
    (v2 : Value) (m : Nat) (news : List Value) (hx : a.eval x = v2) (hsrc : SrcAt w size v2 m news)
    (h63 : n + m ≤ maxLen) (hbytes : (n + m) * bytes ≤ 140737488355328) (hbase : base ≤ w.heap.size)
    (h : ∀ v' w', Hid (w'.ownsRow base e size v' (n + m) (xs ++ news)) → Below B w0 w' → Below base w w' → wpList P ops Q rest (a.put o.dst v') w') : wpList P ops Q (o :: rest) a w := by
  obtain ⟨i0, hi0, hz0, hz1, hz2⟩ := info_parts hi
  have hob : ∀ k, v.ownBlock = some k → base ≤ k := fun k e => by
    rcases hown.2 with ⟨h, _⟩ | ⟨g, cap, cur, h, hg, _⟩
    · rw [h] at e; cases e
    · rw [h] at e; cases e; exact hg
  rcases hsrc with ⟨rfl, rfl, rfl⟩ | ⟨ad, c, rfl, g1, g2, g3⟩
  · refine wpList_append_own_none hgd s x t ho base e i0 size ht hi0 v n xs hs hown hx (h v w ?_ hb (Below.refl _ _))
    rw [List.append_nil, Nat.add_zero]
    exact hown
  · refine wpList_append_own w hgd s x t ho base e i0 z size bytes ht hi0 hz0 hz1 hz2 hzs hsz v n xs hs hown ad m c news hx g1 g2 g3 h63 hbytes hbase ?_
    intro v' w' ho' hg _
    exact h v' w' ho' (hb.grown hg (by omega) (fun k e => by have := hob k e; omega)) ((Below.refl _ _).grown hg hbase hob)
end

/-- Bytes of one's own. -/
abbrev OwnB (w : World) (base : Nat) (v : Value) (l : List UInt8) : Prop := w.ownsRow base tByte 1 v l.length (l.map bval)

theorem BytesAt.src {w : World} {G : Nat → Prop} {v : Value} {l : List UInt8} (x : BytesAt w.heap G v l) : SrcAt w 1 v l.length (l.map bval) := by
  rcases x with ⟨rfl, rfl⟩ | ⟨b, o, cap, c, t, fr, rfl, h2, h3, g2, g3, g4⟩
  · exact Or.inl ⟨rfl, rfl, rfl⟩
  · refine Or.inr ⟨⟨b, o, none⟩, cap, rfl, by simp, fun j u hj => ?_, fun u hu => ?_⟩
    · obtain ⟨x, hx, rfl⟩ : ∃ x, l[j]? = some x ∧ bval x = u := by simpa using hj
      rw [addr_add, cell_of_row _ _ _ _ _ _ g3]
      exact g4 j x hx
    · obtain ⟨x, _, rfl⟩ := List.mem_map.1 hu
      rfl

theorem own_empty (w : World) : OwnB (w.alloc (.cells #[] tByte)) w.heap.size (.slice (some ⟨w.heap.size, 0, none⟩) 0 0) [] :=
  ⟨rfl, Or.inr ⟨w.heap.size, 0, #[], rfl, Nat.le_refl _, heap_alloc_last _ _, Nat.le_refl _, Nat.zero_le _, rfl, rfl⟩⟩

theorem OwnB.bytes {w : World} {base : Nat} {v : Value} {l : List UInt8} (h : OwnB w base v l) : FreshBytes w.heap base v l := fresh_of_owns h rfl

theorem wpList_append_bytes {ops : Array Oper} {rest : List Oper} {o : Oper} {a : Act} {w : World} {Q : Exit → Act → World → Prop} (hgd : o.guard = none) (s x : Operand)
    (ho : o.op = .call { callee := .builtin .append, args := #[s, x], argTypes := #[tBytes, tBytes] })
    (B base : Nat) (w0 : World) (hb : Below B w0 w) (hB : B ≤ base) (v : Value) (l1 : List UInt8) (hs : a.eval s = v) (hown : OwnB w base v l1)
    (v2 : Value) (l2 : List UInt8) (G : Nat → Prop) (hx : a.eval x = v2) (hsrc : BytesAt w.heap G v2 l2)
    (hl : l1.length + l2.length ≤ 1099511627776) (hbase : base ≤ w.heap.size)
    (h : ∀ v' w', Hid (OwnB w' base v' (l1 ++ l2)) → Below B w0 w' → Below base w w' → wpList Try.prog ops Q rest (a.put o.dst v') w') : wpList Try.prog ops Q (o :: rest) a w := by
  refine wpList_append_row hgd s x tBytes ho B base w0 hb hB tByte (.int .u8 0) 1 1 Try.underlying36 infoByte rfl (by decide) v l1.length (l1.map bval) hs hown v2 l2.length (l2.map bval) hx hsrc.src (by unfold maxLen; omega) (by omega) hbase ?_
  intro v' w' ho' h1 h2
  refine h v' w' ?_ h1 h2
  have := ho'.out
  unfold OwnB
  rw [List.length_append, List.map_append]
  exact this

end Go.Proofs.Ytiefhmbpaoecfaa

namespace Go.Proofs.Ytiefhmbpaoecfaa
open Go.RowKit Dm

/-- Only a disk's flags have turned. -/
theorem DiskAt.flags {w w' : World} {p m : Nat} {d : D} {F : Nat → Prop} (x : DiskAt w.heap p m d F) (dead' stops' : Bool) (after' : Int) (d' : D) (ed : d' = { d with dead := dead', stops := if stops' then after' else -1 }) (hok : d'.ok) (ha : stops' = true → 0 ≤ after')
    (hm : Moves (fun k => k = p) w w')
    (hc : ∀ c, w.heap[p]? = some (.cells c tDisk (0, 0)) → w'.heap[p]? = some (.cells (((c.setIfInBounds 13 (.bool dead')).setIfInBounds 14 (.bool stops')).setIfInBounds 15 (.int .i64 after')) tDisk (0, 0))) : DiskAt w'.heap p m d' F := by
  subst ed
  have lt := x.lt
  obtain ⟨ml, l0, l1, l2, l3, wv, stops, after, ⟨t0, t1, t2, t3, c1, c4, b0, b1, b2, b3, c7, c8, c9⟩, r⟩ := x.parts
  have hs : ∀ k, F k → k < w.heap.size → w'.heap[k]? = w.heap[k]? := fun k hk hl => hm.block k hl (fun e => c8 (e ▸ hk))
  have hF : ∀ k, F k → k < w.heap.size → F k := fun _ h _ => h
  refine DiskAt.of hok (ml := ml) (l0 := l0) (l1 := l1) (l2 := l2) (l3 := l3) (wv := wv) (stops := stops') (after := after') ?_ ?_
  · exact ⟨t0, t1, t2, t3, (hc _ c1).trans (by simp [diskR]), c4.stays (hm.block m lt.2.1 c9), b0.keeps hs hF, b1.keeps hs hF, b2.keeps hs hF, b3.keeps hs hF, c7, c8, c9⟩
  · have r' := r.keeps (F' := F) hs hF
    exact ⟨rfl, ha, r'.sec, r'.fml, r'.b0, r'.b1, r'.b2, r'.b3, r'.steps⟩

theorem stop_none (v : Value) (n : Int) (w : World) (h : NoneD w v) : Calls Try.prog 25 #[v, .int .i64 n] w fun e w' => e = .returned (.int .i64 1) ∧ w = w' := by
  have H := Lib.hid h
  clear h
  go_enter Try.func25, Try.ntmps25
  go_wp2_with (go_at_call 33; refine (none_c H.out).mono ?_; rintro e w' ⟨rfl, rfl⟩)
  go_ret
  exact ⟨rfl, rfl⟩

theorem stop_arg (p : Nat) (n : Int) (w : World) (h : w.cell? ⟨p, 16, none⟩ = some (.bool true)) (hn : n < 0) : Calls Try.prog 25 #[.pointer (some ⟨p, 0, none⟩), .int .i64 n] w fun e w' => e = .returned (.int .i64 2) ∧ w = w' := by
  go_enter Try.func25, Try.ntmps25
  go_wp2_with (go_at_call 33; refine (none_at p true _ h).mono ?_; rintro e w' ⟨rfl, rfl⟩)
  go_ret
  exact ⟨rfl, rfl⟩

theorem stop_dead (p : Nat) (n : Int) (w : World) (h : w.cell? ⟨p, 16, none⟩ = some (.bool true)) (h2 : w.cell? ⟨p, 13, none⟩ = some (.bool true)) (hn : ¬ n < 0) : Calls Try.prog 25 #[.pointer (some ⟨p, 0, none⟩), .int .i64 n] w fun e w' => e = .returned (.int .i64 281) ∧ w = w' := by
  go_enter Try.func25, Try.ntmps25
  go_wp2_with (go_at_call 33; refine (none_at p true _ h).mono ?_; rintro e w' ⟨rfl, rfl⟩)
  go_ret
  exact ⟨rfl, rfl⟩

theorem stop_live (p : Nat) (n : Int) (u v : Value) (w : World) (h : w.cell? ⟨p, 16, none⟩ = some (.bool true)) (h2 : w.cell? ⟨p, 13, none⟩ = some (.bool false)) (hn : ¬ n < 0) (h3 : w.cell? ⟨p, 14, none⟩ = some u) (h4 : w.cell? ⟨p, 15, none⟩ = some v)
    (f1 : w.frozen? ⟨p, 14, none⟩ = false) (f2 : w.frozen? ⟨p, 15, none⟩ = false) :
    Calls Try.prog 25 #[.pointer (some ⟨p, 0, none⟩), .int .i64 n] w fun e w' => e = .returned (.int .i64 0) ∧ (w.setCell ⟨p, 14, none⟩ (.bool true)).setCell ⟨p, 15, none⟩ (.int .i64 n) = w' := by
  go_enter Try.func25, Try.ntmps25
  go_wp2_with (go_at_call 33; refine (none_at p true _ h).mono ?_; rintro e w' ⟨rfl, rfl⟩)
  go_ret
  exact ⟨rfl, rfl⟩

theorem left_same {w : World} {p m : Nat} {d : D} {F : Nat → Prop} {c : Int} (x : DiskAt w.heap p m d F) : Left w p m F (d, c) (.returned (.int .i64 c)) w := left_below x (Below.refl _ _)

/-- It is to stop. -/
theorem stop_c {p m : Nat} {d : D} {F : Nat → Prop} {w : World} (x : DiskAt w.heap p m d F) (n : Int) (hn : n ≤ 9223372036854775807) : Calls Try.prog 25 #[.pointer (some ⟨p, 0, none⟩), .int .i64 n] w (Left w p m F (d.stop n)) := by
  obtain ⟨k16, k11, k12, k13⟩ := x.cell16
  by_cases h1 : n < 0
  · have e : d.stop n = (d, 2) := by unfold D.stop; rw [if_pos h1]
    rw [e]
    refine (stop_arg p n w k16 h1).mono ?_
    rintro e w' ⟨rfl, rfl⟩
    exact left_same x
  · cases hd : d.dead
    · have e : d.stop n = ({ d with stops := n }, 0) := by unfold D.stop; rw [if_neg h1, hd]; rfl
      rw [e]
      rw [hd] at k13
      have lt := x.lt
      obtain ⟨ml, l0, l1, l2, l3, wv, stops, after, ⟨t0, t1, t2, t3, c1, _⟩, r⟩ := x.parts
      refine (stop_live p n (.bool stops) (.int .i64 after) w k16 k13 h1 (by rw [cell_of_row _ _ _ _ _ _ c1]; simp [diskR]) (by rw [cell_of_row _ _ _ _ _ _ c1]; simp [diskR]) (row_free c1 _) (row_free c1 _)).mono ?_
      rintro e w' ⟨rfl, rfl⟩
      have mv : Moves (fun k => k = p) w ((w.setCell ⟨p, 14, none⟩ (.bool true)).setCell ⟨p, 15, none⟩ (.int .i64 n)) :=
        ⟨rfl, rfl, rfl, by simp, fun k hk hne => by rw [heap_setCell_other _ _ _ _ hne, heap_setCell_other _ _ _ _ hne]⟩
      have hok : ({ d with stops := n } : D).ok := by
        have h := x.ok
        exact ⟨h.many0, h.many1, h.room0, h.room1, h.sec, h.tape, h.waits, by show -1 ≤ n; omega, hn⟩
      have y := x.flags (w' := (w.setCell ⟨p, 14, none⟩ (.bool true)).setCell ⟨p, 15, none⟩ (.int .i64 n)) false true n { d with stops := n } (by rw [← hd]; simp) hok (fun _ => by omega) mv (fun c hc => by
        have e13 : c.setIfInBounds 13 (.bool false) = c := by
          rw [c1] at hc
          have : (Value.map (some m) :: t0 :: t1 :: t2 :: t3 :: diskR ml l0 l1 l2 l3 wv d.many d.room d.dead stops after).toArray = c := by simpa using hc
          rw [← this, hd]
          simp [diskR]
        have y1 := heap_setCell_same w p 14 _ tDisk (.bool true) hc
        rw [e13]
        exact heap_setCell_same _ p 15 _ tDisk (.int .i64 n) y1)
      refine ⟨rfl, mv.mono (fun _ => Or.inl), y.weak (fun _ h _ => Or.inl h) (fun h => ?_) (fun h => ?_)⟩
      · rcases h with h | h
        · exact lt.2.2.2.1 h
        · omega
      · rcases h with h | h
        · exact lt.2.2.2.2 h
        · omega
    · have e : d.stop n = (d, 281) := by unfold D.stop; rw [if_neg h1, hd]; rfl
      rw [e]
      rw [hd] at k13
      refine (stop_dead p n w k16 k13 h1).mono ?_
      rintro e w' ⟨rfl, rfl⟩
      exact left_same x

theorem used_none (v : Value) (w : World) (h : NoneD w v) : Calls Try.prog 28 #[v] w fun e w' => e = .returned (.int .i64 0) ∧ w = w' := by
  have H := Lib.hid h
  clear h
  go_enter Try.func28, Try.ntmps28
  go_wp2_with (go_at_call 33; refine (none_c H.out).mono ?_; rintro e w' ⟨rfl, rfl⟩)
  go_ret
  exact ⟨rfl, rfl⟩

theorem usedD_c {p m : Nat} {d : D} {F : Nat → Prop} {w : World} (x : DiskAt w.heap p m d F) : Calls Try.prog 28 #[.pointer (some ⟨p, 0, none⟩)] w fun e w' => e = .returned (.int .i64 d.stand.used) ∧ Below w.heap.size w w' := by
  obtain ⟨k16, _⟩ := x.cell16
  have H := Lib.hid (used_d x)
  clear x
  go_enter Try.func28, Try.ntmps28
  go_wp2_with (first | (go_at_call 33; refine (none_at p true _ k16).mono ?_; rintro e w' ⟨rfl, rfl⟩) | (go_at_call 47; refine H.out.mono ?_; rintro e w' ⟨rfl, hb⟩))
  go_ret
  exact ⟨rfl, hb⟩

/-! The others, of no disk. -/
theorem sectors_none (v : Value) (w : World) (h : NoneD w v) : Calls Try.prog 26 #[v] w fun e w' => e = .returned (.int .i64 0) ∧ w = w' := by
  have H := Lib.hid h
  clear h
  go_enter Try.func26, Try.ntmps26
  go_wp2_with (go_at_call 33; refine (none_c H.out).mono ?_; rintro e w' ⟨rfl, rfl⟩)
  go_ret
  exact ⟨rfl, rfl⟩
theorem room_none (v : Value) (w : World) (h : NoneD w v) : Calls Try.prog 27 #[v] w fun e w' => e = .returned (.int .i64 0) ∧ w = w' := by
  have H := Lib.hid h
  clear h
  go_enter Try.func27, Try.ntmps27
  go_wp2_with (go_at_call 33; refine (none_c H.out).mono ?_; rintro e w' ⟨rfl, rfl⟩)
  go_ret
  exact ⟨rfl, rfl⟩
theorem waits_none (v : Value) (w : World) (h : NoneD w v) : Calls Try.prog 12 #[v] w fun e w' => e = .returned (.int .i64 0) ∧ w = w' := by
  have H := Lib.hid h
  clear h
  go_enter Try.func12, Try.ntmps12
  go_wp2_with (go_at_call 33; refine (none_c H.out).mono ?_; rintro e w' ⟨rfl, rfl⟩)
  go_ret
  exact ⟨rfl, rfl⟩
theorem dead_none (v : Value) (w : World) (h : NoneD w v) : Calls Try.prog 16 #[v] w fun e w' => e = .returned (.bool false) ∧ w = w' := by
  have H := Lib.hid h
  clear h
  go_enter Try.func16, Try.ntmps16
  go_wp2_with (go_at_call 33; refine (none_c H.out).mono ?_; rintro e w' ⟨rfl, rfl⟩)
  go_ret
  exact ⟨rfl, rfl⟩
theorem copy_none (v : Value) (w : World) (h : NoneD w v) : Calls Try.prog 10 #[v] w fun e w' => e = .returned (.pointer none) ∧ w = w' := by
  have H := Lib.hid h
  clear h
  go_enter Try.func10, Try.ntmps10
  go_wp2_with (go_at_call 33; refine (none_c H.out).mono ?_; rintro e w' ⟨rfl, rfl⟩)
  go_ret
  exact ⟨rfl, rfl⟩
theorem sync_none (v : Value) (w : World) (h : NoneD w v) : Calls Try.prog 24 #[v] w fun e w' => e = .returned (.int .i64 1) ∧ w = w' := by
  have H := Lib.hid h
  clear h
  go_enter Try.func24, Try.ntmps24
  go_wp2_with (go_at_call 33; refine (none_c H.out).mono ?_; rintro e w' ⟨rfl, rfl⟩)
  go_ret
  exact ⟨rfl, rfl⟩

end Go.Proofs.Ytiefhmbpaoecfaa

namespace Go.Proofs.Ytiefhmbpaoecfaa
open Go.RowKit Dm

abbrev tStand : Nat := 58
abbrev slN : Value := .slice none 0 0

theorem new_bad (s b : Int) (w : World) (h : s < 0 ∨ (¬ s < 0 ∧ 4096 < s) ∨ (¬ s < 0 ∧ ¬ 4096 < s ∧ b < 0) ∨ (¬ s < 0 ∧ ¬ 4096 < s ∧ ¬ b < 0 ∧ 1048576 < b)) :
    Calls Try.prog 8 #[.int .i64 s, .int .i64 b] w fun e w' => e = .returned (.tuple #[.pointer none, .int .i64 2]) ∧ w = w' := by
  rcases h with h | ⟨h1, h2⟩ | ⟨h1, h2, h3⟩ | ⟨h1, h2, h3, h4⟩
  all_goals
    go_enter Try.func8, Try.ntmps8
    go_wp2
    go_ret2
    exact ⟨rfl, rfl⟩

abbrev newC (m ml : Nat) (s b : Int) : Array Value := diskC m slN slN slN slN ml slN slN slN slN slN s b false false 0

set_option maxRecDepth 100000 in
set_option maxHeartbeats 2000000 in
theorem new_good (s b : Int) (w : World) (h1 : ¬ s < 0) (h2 : ¬ 4096 < s) (h3 : ¬ b < 0) (h4 : ¬ 1048576 < b) :
    Calls Try.prog 8 #[.int .i64 s, .int .i64 b] w fun e w' => ∃ p m ml, e = .returned (.tuple #[.pointer (some ⟨p, 0, none⟩), .int .i64 0]) ∧ Below w.heap.size w w' ∧ w.heap.size ≤ m ∧ m < ml ∧ ml < p ∧
      w'.heap[p]? = some (.cells (newC m ml s b) tDisk (0, 0)) ∧ w'.heap[m]? = some (.map #[] 0) ∧ w'.heap[ml]? = some (.map #[] 0) := by
  have hmm := @run_makeMap Try.prog
  have hi : (Try.prog.info? tStand).map (·.size) = some 5 := by kernel_rfl
  have HI := Lib.hid hi
  clear hi
  go_enter Try.func8, Try.ntmps8
  go_wp2_with (refine wpList_store_abs rfl tStand (.tmp 6) (.tmp 22) rfl (w.heap.size + 1) #[.map (some w.heap.size), slN, slN, slN, slN] rfl rfl tStand stand0 (heap_at (w := w.alloc (.map #[] 0)) _ (by simp)) HI.out (by kernel_rfl) (by kernel_rfl) ?_
               intro W1 HW HM1 HS)
  have hb1 : Below w.heap.size w W1 := Moves.new (((Below.refl _ _).alloc (Nat.le_refl _) _).alloc (by simp) _) HM1 (by omega)
  have z1 : W1.heap.size = w.heap.size + 2 := by rw [HS]; simp
  have r1 : W1.heap[w.heap.size]? = some (.map #[] 0) := (HM1.block w.heap.size (by simp; omega) (fun e => by omega)).trans (heap_past (by simp) (heap_alloc_last w _))
  have r2 := HW.out
  clear HM1 HS HW hmm
  have H1 := Lib.hid (And.intro hb1 (And.intro z1 (And.intro r1 r2)))
  have k : ∀ j v, (#[.map (some w.heap.size), slN, slN, slN, slN] : Array Value)[j]? = some v → W1.drew.cell? ⟨w.heap.size + 1, j, none⟩ = some v := fun j v hj => row_cell (w := W1.drew) r2 hj
  have CP := Lib.hid (copied_c (w.heap.size + 1) 0 w.heap.size (Or.inl rfl) slN slN slN slN #[] 0 W1.drew (k 0 _ rfl) (k 1 _ rfl) (k 2 _ rfl) (k 3 _ rfl) (k 4 _ rfl) r1 (by kernel_rfl))
  have ld : ∀ w', (∃ x : Wd (Below W1.heap.size W1), w' = x.world) → (Instr.loadAt tStand (.pointer (some ⟨w.heap.size + 1, 0, none⟩))).run Try.prog w' = .ok (.agg #[.map (some w.heap.size), slN, slN, slN, slN]) w' := by
    rintro w' ⟨x, rfl⟩
    exact run_loadAt_row ((x.ok.block _ (lt_of_row r2)).trans r2) Try.underlying58 rfl HI.out
  have LD := Lib.hid ld
  clear k ld hb1 z1 r1 r2
  have ne : Nonempty (Wd (Below W1.heap.size W1)) := ⟨⟨_, Below.refl _ _⟩⟩
  refine wp_region_hoist (fun w' => ∃ x : Wd (Below W1.heap.size W1), w' = x.world) [] (by kernel_rfl) ?_
  refine wpAnyI_reads [0, 2, 3] 5 _ ⟨⟨_, (Below.refl _ _).drew⟩, rfl⟩ (by kernel_rfl) ?_
  simp only [List.filterMap_cons, List.filterMap_nil, List.getElem?_toArray, List.getElem?_cons_succ, List.getElem?_cons_zero]
  refine wpHoist_load_run rfl tStand (.tmp 6) rfl _ LD.out ?_
  repeat (refine wpHoist_step (fun K hK => ?_); simp only [hoists, sameUpon]; go_simp; refine hK _ ?_; clear hK K)
  refine wpHoist_nil ?_
  refine wpAnyI_one 1 4 _ _ rfl (by kernel_rfl) ?_
  refine wpList_plain rfl fun K hK => ?_
  go_simp
  go_at_call 32
  refine CP.out.mono ?_
  rintro e W2 ⟨rfl, hb2, r3⟩
  have hb2' : Below W1.heap.size W1 W2 := (Below.refl _ _).drew.trans hb2
  have R3 := Lib.hid r3
  clear r3 hb2
  refine hK _ _ (wpList_nil ⟨rfl, fun _ => ⟨⟨_, hb2'⟩, rfl⟩, ?_⟩)
  clear hK K
  refine wpAnyI_reads [4] 3 _ ⟨⟨_, hb2'⟩, rfl⟩ (by kernel_rfl) ?_
  simp only [List.filterMap_cons, List.filterMap_nil, List.getElem?_toArray, List.getElem?_cons_succ, List.getElem?_cons_zero]
  repeat (refine wpHoist_step (fun K hK => ?_); simp only [hoists, sameUpon]; go_simp; refine hK _ ?_; clear hK K)
  refine wpHoist_nil ?_
  refine wpAnyI_one 5 2 _ _ rfl (by kernel_rfl) ?_
  refine wpList_plain rfl fun K hK => ?_
  go_simp
  refine hK _ _ (wpList_nil ⟨rfl, fun _ => ⟨⟨_, hb2'.alloc hb2'.size _⟩, rfl⟩, ?_⟩)
  clear hK K
  refine wpAnyI_reads [6, 7] 0 _ ⟨⟨_, hb2'.alloc hb2'.size _⟩, rfl⟩ (by kernel_rfl) ?_
  simp only [List.filterMap_cons, List.filterMap_nil, List.getElem?_toArray, List.getElem?_cons_succ, List.getElem?_cons_zero]
  repeat (refine wpHoist_step (fun K hK => ?_); simp only [hoists, sameUpon]; go_simp; refine hK _ ?_; clear hK K)
  refine wpHoist_nil ?_
  refine ⟨by kernel_rfl, ?_⟩
  go_wp2
  go_ret2
  obtain ⟨b1, z1, r1, r2⟩ := H1.out
  have r3 : W2.heap[W1.heap.size + 1]? = some (.map #[] 0) := R3.out
  have z2 := hb2'.size
  have lt3 : W1.heap.size + 1 < W2.heap.size := lt_of_row r3
  refine ⟨W2.heap.size, w.heap.size, W1.heap.size + 1, rfl, b1.trans ((hb2'.alloc hb2'.size _).mono (by omega)), Nat.le_refl _, by omega, lt3, heap_alloc_last _ _, ?_, heap_past lt3 r3⟩
  exact heap_past (by omega) ((hb2'.block _ (by omega)).trans r1)

theorem secMap_empty {h : Array Obj} {m : Nat} (hm : h[m]? = some (.map #[] 0)) : SecMap h m (fun _ => zeros) :=
  ⟨#[], 0, hm, (fun e he => by simp at he), (fun e he => by simp at he), (fun _ _ => rfl), by simp⟩

theorem new_ok (s b : Int) (h1 : ¬ s < 0) (h2 : ¬ 4096 < s) (h3 : ¬ b < 0) (h4 : ¬ 1048576 < b) : (Dm.new s b).ok :=
  ⟨by show 0 ≤ s; omega, by show s ≤ 4096; omega, by show 0 ≤ b; omega, by show b ≤ 1048576; omega, fun n => List.length_replicate, fun k t => (by show ((List.foldl St.done St.empty (List.take k [])).tp t).length ≤ b; rw [List.take_nil]; show (0 : Int) ≤ b; omega), (fun s hs => by cases hs), (by show (-1 : Int) ≤ -1; omega), (by show (-1 : Int) ≤ 9223372036854775807; omega)⟩

/-- Blocks of a disk that was made behind w, but its own. -/
def NewF (w : World) (p m : Nat) : Nat → Prop := fun k => w.heap.size ≤ k ∧ k ≠ p ∧ k ≠ m

theorem new_c (s b : Int) (w : World) (h : newErr s b = 0) :
    Calls Try.prog 8 #[.int .i64 s, .int .i64 b] w fun e w' => ∃ p m, e = .returned (.tuple #[.pointer (some ⟨p, 0, none⟩), .int .i64 0]) ∧ Below w.heap.size w w' ∧ w.heap.size ≤ p ∧ w.heap.size ≤ m ∧ DiskAt w'.heap p m (Dm.new s b) (NewF w p m) := by
  have hh : ¬ (s < 0 ∨ s > 4096 ∨ b < 0 ∨ b > 1048576) := by
    intro hh
    unfold newErr at h
    rw [if_pos hh] at h
    cases h
  refine (new_good s b w (by omega) (by omega) (by omega) (by omega)).mono ?_
  rintro e w' ⟨p, m, ml, rfl, hb, g1, g2, g3, c1, c2, c3⟩
  refine ⟨p, m, rfl, hb, by omega, g1, new_ok s b (by omega) (by omega) (by omega) (by omega), slN, slN, slN, slN, ml, slN, slN, slN, slN, slN, false, 0, c1, rfl, (fun h => by cases h), secMap_empty c2, secMap_empty c3, ⟨by omega, by omega, by omega⟩, (fun h => h.2.2 rfl), (fun h => h.2.1 rfl), by omega,
    Or.inl ⟨rfl, rfl⟩, Or.inl ⟨rfl, rfl⟩, Or.inl ⟨rfl, rfl⟩, Or.inl ⟨rfl, rfl⟩, Or.inl ⟨rfl, rfl⟩, Or.inl ⟨rfl, rfl⟩, Or.inl ⟨rfl, rfl⟩, Or.inl ⟨rfl, rfl⟩, Or.inl ⟨rfl, rfl⟩⟩

theorem new_err (s b : Int) (w : World) (h : newErr s b ≠ 0) :
    Calls Try.prog 8 #[.int .i64 s, .int .i64 b] w fun e w' => e = .returned (.tuple #[.pointer none, .int .i64 2]) ∧ w = w' := by
  have hh : s < 0 ∨ s > 4096 ∨ b < 0 ∨ b > 1048576 := by
    refine Classical.byContradiction fun hh => h ?_
    unfold newErr
    rw [if_neg hh]
  exact new_bad s b w (by omega)

end Go.Proofs.Ytiefhmbpaoecfaa
