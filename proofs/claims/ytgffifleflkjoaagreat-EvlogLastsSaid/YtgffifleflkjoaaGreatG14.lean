/-
  append onto a row of the call's own: where the row lies then.
  append onto bytes of one's own: which block has turned.
  wire: a number's bytes, the highest ahead (printed by genhigh.py).
  wire: a number.
  wire: numbers of bytes, plain.
-/
import Derived.Test.YtgffifleflkjoaaGreatG11
import Derived.Test.YtgffifleflkjoaaGreatG13
import Derived.Lib.AppendStr
import Derived.Maps.Range
import Derived.Laws.BitsAllLaws

namespace Go.Proofs.YtgffifleflkjoaaGreat
open Go.RowKit

section
variable {P : Program}

theorem run_append_where (w : World) (base : Nat) (t ty e : TypeId) (i : TypeInfo) (z : Value) (size bytes : Nat) (ht : P.underlying t = some (.slice e)) (hi : P.info? e = some i) (hz : i.zero = some z)
    (hsize : i.size = size) (hby : i.bytes = bytes) (hzs : z.cells.size = size) (hsz : 0 < size)
    (v : Value) (n : Nat) (xs : List Value) (hown : w.ownsRow base e size v n xs)
    (a : Addr) (m c : Nat) (news : List Value) (hl : news.length = m * size) (hnews : ∀ j u, news[j]? = some u → w.cell? (a.add j) = some u) (h1 : ∀ u ∈ news, u.oneCell' = true)
    (h63 : n + m ≤ maxLen) (hbytes : (n + m) * bytes ≤ 140737488355328) (hbase : base ≤ w.heap.size) :
    ∃ v' w', (Builtin.append_ #[t, t] ty #[v, .slice (some a) m c]).run P w = .ok v' w' ∧ w'.ownsRow base e size v' (n + m) (xs ++ news) ∧ w.grownBy w' v.ownBlock ∧
      ∀ k, v'.ownBlock = some k → v.ownBlock = some k ∨ w.heap.size ≤ k := by
  obtain ⟨v', w', hr, h2, h3, h4⟩ := run_append_own (P := P) w base t ty e i z size bytes ht hi hz hsize hby hzs hsz v n xs hown a m c news hl hnews h1 h63 hbytes hbase
  refine ⟨v', w', hr, h2, h3, fun k hk => ?_⟩
  rcases hown.2 with ⟨rfl, rfl⟩ | ⟨g, cap, cur, rfl, hbg, hg, hnc, hcm, hcs, htake⟩
  · obtain ⟨v2, w2, hr2, g2, _, _⟩ := run_append_own (P := P) w w.heap.size t ty e i z size bytes ht hi hz hsize hby hzs hsz (.slice none 0 0) 0 xs ⟨hown.1, Or.inl ⟨rfl, rfl⟩⟩ a m c news hl hnews h1 h63 hbytes (Nat.le_refl _)
    rw [hr] at hr2
    obtain ⟨rfl, rfl⟩ : v' = v2 ∧ w' = w2 := by cases hr2; exact ⟨rfl, rfl⟩
    exact Or.inr (g2.lt k hk).1
  · subst hsize
    subst hby
    by_cases hroom : n + m ≤ cap
    · have hfit : n * i.size + news.length ≤ cur.size := by rw [hl, hcs, ← Nat.add_mul]; exact Nat.mul_le_mul_right _ hroom
      have hr2 := run_append_room (P := P) w t ty e i ht hi g n cap cur hg a m c news hl hnews h1 hroom hfit
      rw [hr] at hr2
      cases hr2
      exact Or.inl hk
    · have holds : ∀ j u, xs[j]? = some u → w.cell? ((⟨g, 0, none⟩ : Addr).add j) = some u := hown.cells (g := g) rfl
      have hr2 := run_append_grow (P := P) w t ty e i z ht hi hz ⟨g, 0, none⟩ n cap xs hown.1 holds a m c news hl hnews (by omega) (by unfold maxLen at h63; omega) (growslice_fits (by omega) hbytes)
      rw [hr] at hr2
      cases hr2
      simp only [Value.ownBlock, Option.some.injEq] at hk
      exact Or.inr (by omega)

theorem wpList_append_where {ops : Array Oper} {rest : List Oper} {o : Oper} {a : Act} {w : World} {Q : Exit → Act → World → Prop} (hgd : o.guard = none) (s x : Operand) (t : TypeId)
    (ho : o.op = .call { callee := .builtin .append, args := #[s, x], argTypes := #[t, t] })
    (base : Nat) (e : TypeId) (z : Value) (size bytes : Nat) (ht : P.underlying t = some (.slice e)) (hi : (P.info? e).map (fun i => (i.zero, i.size, i.bytes)) = some (some z, size, bytes))
    (hzs : z.cells.size = size) (hsz : 0 < size)
    (v : Value) (n : Nat) (xs : List Value) (hs : a.eval s = v) (hown : w.ownsRow base e size v n xs)
    (ad : Addr) (m c : Nat) (news : List Value) (hx : a.eval x = .slice (some ad) m c) (hl : news.length = m * size) (hnews : ∀ j u, news[j]? = some u → w.cell? (ad.add j) = some u) (h1 : ∀ u ∈ news, u.oneCell' = true)
    (h63 : n + m ≤ maxLen) (hbytes : (n + m) * bytes ≤ 140737488355328) (hbase : base ≤ w.heap.size)
    (h : ∀ v' w', Hid (w'.ownsRow base e size v' (n + m) (xs ++ news)) → Hid (w.grownBy w' v.ownBlock) → Hid (∀ k, v'.ownBlock = some k → v.ownBlock = some k ∨ w.heap.size ≤ k) → wpList P ops Q rest (a.put o.dst v') w') : wpList P ops Q (o :: rest) a w := by
  obtain ⟨i0, hi0, hz0, hz1, hz2⟩ := info_parts hi
  refine wpList_plain hgd fun K hK => ?_
  obtain ⟨v', w', hr, h2, h3, h4⟩ := run_append_where (P := P) w base t o.type e i0 z size bytes ht hi0 hz0 hz1 hz2 hzs hsz v n xs hown ad m c news hl hnews h1 h63 hbytes hbase
  unfold Oper.wp execOp
  simp only [ho, resolve, invoke, builtin, Sem.run_bind, Sem.run_pure, Result.andThen_ok, List.map_toArray, List.map_cons, List.map_nil, hs, hx, hr]
  exact hK _ _ (h v' w' h2 h3 h4)
end
end Go.Proofs.YtgffifleflkjoaaGreat

namespace Go.Proofs.YtgffifleflkjoaaGreat
open Go.RowKit

/-- More bytes: nothing but the row's own block has turned, and where the new row lies. -/
structure Adds (w w' : World) (v v' : Value) : Prop where
  grown : w.grownBy w' v.ownBlock
  lies : ∀ k, v'.ownBlock = some k → v.ownBlock = some k ∨ w.heap.size ≤ k

theorem Adds.refl (w : World) (v : Value) : Adds w w v v := ⟨World.grownBy.refl _ _, fun _ h => Or.inl h⟩
theorem Adds.trans {A B C : World} {v v' v'' : Value} (h : Adds A B v v') (k : Adds B C v' v'') : Adds A C v v'' :=
  ⟨h.grown.andThen k.grown (fun j e => (h.lies j e).symm), fun j e => by
    rcases k.lies j e with q | q
    · exact h.lies j q
    · exact Or.inr (Nat.le_trans h.grown.size q)⟩
theorem Adds.alloc {A B : World} {v v' : Value} (h : Adds A B v v') (o : Obj) : Adds A (B.alloc o) v v' :=
  ⟨World.grownBy.trans h.grown (World.grownBy_alloc _ _ _), h.lies⟩
theorem Adds.below {w w' : World} {v v' : Value} {base : Nat} {l : List UInt8} (h : Adds w w' v v') (hown : OwnB w base v l) (hb : base ≤ w.heap.size) : Below base w w' :=
  (Below.refl _ _).grown h.grown hb (fun k e => by
    rcases hown.2 with ⟨h, _⟩ | ⟨g, cap, cur, h, hg, _⟩
    · rw [h] at e; cases e
    · rw [h] at e; cases e; exact hg)
/-- A block that is not the row's own stays. -/
theorem Adds.kept {w w' : World} {v v' : Value} (h : Adds w w' v v') {k : Nat} {o : Obj} (hk : w.heap[k]? = some o) (hn : v.ownBlock ≠ some k) : w'.heap[k]? = some o :=
  (h.grown.block k (Array.getElem?_eq_some_iff.1 hk).1 (fun e => hn e.symm)).trans hk

section
variable {ops : Array Oper} {rest : List Oper} {o : Oper} {a : Act} {w : World} {Q : Exit → Act → World → Prop}

theorem wpList_append_grow (hgd : o.guard = none) (s x : Operand) (ho : o.op = .call { callee := .builtin .append, args := #[s, x], argTypes := #[tBytes, tBytes] })
    (base : Nat) (v : Value) (l1 : List UInt8) (hs : a.eval s = v) (hown : OwnB w base v l1) (v2 : Value) (l2 : List UInt8) (G : Nat → Prop) (hx : a.eval x = v2) (hsrc : BytesAt w.heap G v2 l2)
    (hl : l1.length + l2.length ≤ 1099511627776) (hbase : base ≤ w.heap.size)
    (h : ∀ v' w', Hid (OwnB w' base v' (l1 ++ l2)) → Hid (Adds w w' v v') → wpList Tryz.prog ops Q rest (a.put o.dst v') w') : wpList Tryz.prog ops Q (o :: rest) a w := by
  have i0 := infoByte
  obtain ⟨i1, hi0, hz0, hz1, hz2⟩ := info_parts i0
  rcases hsrc.src with ⟨rfl, hm, hn⟩ | ⟨ad, c, rfl, g1, g2, g3⟩
  · have e2 : l2 = [] := List.eq_nil_of_length_eq_zero hm
    subst e2
    refine wpList_append_own_none hgd s x tBytes ho base tByte i1 1 Tryz.underlying31 hi0 v l1.length (l1.map bval) hs hown hx (h v w ?_ (Lib.hid (Adds.refl w v)))
    rw [List.append_nil]
    exact Lib.hid hown
  · refine wpList_append_where hgd s x tBytes ho base tByte (.int .u8 0) 1 1 Tryz.underlying31 i0 rfl (by decide) v l1.length (l1.map bval) hs hown ad l2.length c (l2.map bval) hx g1 g2 g3 (by unfold maxLen; omega) (by omega) hbase ?_
    intro v' w' h1 h2 h3
    refine h v' w' ?_ (Lib.hid ⟨h2.out, h3.out⟩)
    have := h1.out
    rw [← List.map_append] at this
    refine Lib.hid ?_
    show w'.ownsRow base tByte 1 v' (l1 ++ l2).length ((l1 ++ l2).map bval)
    rw [List.length_append]
    exact this

theorem run_append_where_string (w : World) (base : Nat) (t u ty e : TypeId) (i : TypeInfo) (ht : Tryz.prog.underlying t = some (.slice e)) (hu : Tryz.prog.underlying u = some .string) (hi : Tryz.prog.info? e = some i) (hz : i.zero = some (.int .u8 0))
    (hsize : i.size = 1) (hby : i.bytes = 1) (v : Value) (n : Nat) (xs : List Value) (hown : w.ownsRow base e 1 v n xs) (s : ByteArray) (h63 : n + s.size ≤ maxLen) (hbytes : n + s.size ≤ 140737488355328) (hbase : base ≤ w.heap.size) :
    ∃ v' w', (Builtin.append_ #[t, u] ty #[v, .string s]).run Tryz.prog w = .ok v' w' ∧ w'.ownsRow base e 1 v' (n + s.size) (xs ++ Lib.strCells s) ∧ w.grownBy w' v.ownBlock ∧ ∀ k, v'.ownBlock = some k → v.ownBlock = some k ∨ w.heap.size ≤ k := by
  obtain ⟨v', w', hr, h2, h3, h4⟩ := Lib.run_append_own_string (P := Tryz.prog) w base t u ty e i ht hu hi hz hsize hby v n xs hown s h63 hbytes hbase
  refine ⟨v', w', hr, h2, h3, fun k hk => ?_⟩
  rcases hown.2 with ⟨rfl, rfl⟩ | ⟨g, cap, cur, rfl, hbg, hg, hnc, hcm, hcs, htake⟩
  · obtain ⟨v2, w2, hr2, g2, _, _⟩ := Lib.run_append_own_string (P := Tryz.prog) w w.heap.size t u ty e i ht hu hi hz hsize hby (.slice none 0 0) 0 xs ⟨hown.1, Or.inl ⟨rfl, rfl⟩⟩ s h63 hbytes (Nat.le_refl _)
    rw [hr] at hr2
    obtain ⟨rfl, rfl⟩ : v' = v2 ∧ w' = w2 := by cases hr2; exact ⟨rfl, rfl⟩
    exact Or.inr (g2.lt k hk).1
  · by_cases hroom : n + s.size ≤ cap
    · have hr2 := Lib.run_append_room_string (P := Tryz.prog) w t u ty e i ht hu hi hsize g n cap cur hg s hroom (by rw [hcs]; omega)
      rw [hr] at hr2
      cases hr2
      exact Or.inl hk
    · have holds : ∀ j u, xs[j]? = some u → w.cell? ((⟨g, 0, none⟩ : Addr).add j) = some u := hown.cells (g := g) rfl
      have hr2 := Lib.run_append_grow_string (P := Tryz.prog) w t u ty e i (.int .u8 0) ht hu hi hz ⟨g, 0, none⟩ n cap xs (by rw [hsize]; exact hown.1) holds s (by omega) (by unfold maxLen at h63; omega) (by rw [hby]; exact growslice_fits (by omega) (by omega))
      rw [hr] at hr2
      cases hr2
      simp only [Value.ownBlock, Option.some.injEq] at hk
      exact Or.inr (by omega)

theorem wpList_append_text (hgd : o.guard = none) (s x : Operand) (ho : o.op = .call { callee := .builtin .append, args := #[s, x], argTypes := #[tBytes, 9] })
    (base : Nat) (v : Value) (l1 : List UInt8) (hs : a.eval s = v) (hown : OwnB w base v l1) (l2 : List UInt8) (hx : a.eval x = .string ⟨l2.toArray⟩)
    (hl : l1.length + l2.length ≤ 1099511627776) (hbase : base ≤ w.heap.size)
    (h : ∀ v' w', Hid (OwnB w' base v' (l1 ++ l2)) → Hid (Adds w w' v v') → wpList Tryz.prog ops Q rest (a.put o.dst v') w') : wpList Tryz.prog ops Q (o :: rest) a w := by
  have i0 := infoByte
  obtain ⟨i1, hi0, hz0, hz1, hz2⟩ := info_parts i0
  refine wpList_plain hgd fun K hK => ?_
  have hsz : (⟨l2.toArray⟩ : ByteArray).size = l2.length := by simp [ByteArray.size]
  obtain ⟨v', w', hr, h2, h3, h4⟩ := run_append_where_string w base tBytes 9 o.type tByte i1 Tryz.underlying31 Tryz.underlying9 hi0 hz0 hz1 hz2 v l1.length (l1.map bval) hown ⟨l2.toArray⟩ (by rw [hsz]; unfold maxLen; omega) (by rw [hsz]; omega) hbase
  unfold Oper.wp execOp
  simp only [ho, resolve, invoke, builtin, Sem.run_bind, Sem.run_pure, Result.andThen_ok, List.map_toArray, List.map_cons, List.map_nil, hs, hx, hr]
  refine hK _ _ (h v' w' ?_ (Lib.hid ⟨h3, h4⟩))
  refine Lib.hid ?_
  rw [hsz] at h2
  show w'.ownsRow base tByte 1 v' (l1 ++ l2).length ((l1 ++ l2).map bval)
  rw [List.length_append, List.map_append]
  have e : Lib.strCells ⟨l2.toArray⟩ = l2.map bval := by simp [Lib.strCells, bval]
  rw [← e]
  exact h2
end
end Go.Proofs.YtgffifleflkjoaaGreat

namespace Go.Proofs.YtgffifleflkjoaaGreat
open Go.RowKit

/-- The first so many bytes of a number's k lowest. -/
def hp (n k i : Nat) : List UInt8 := (List.range i).map fun j => UInt8.ofNat (n / 256 ^ (k - 1 - j) % 256)

theorem hp_succ (n k i : Nat) : hp n k (i + 1) = hp n k i ++ [UInt8.ofNat (n / 256 ^ (k - 1 - i) % 256)] := by
  unfold hp
  rw [List.range_succ, List.map_append]
  rfl

theorem hp_length (n k i : Nat) : (hp n k i).length = i := by simp [hp]

/-- A call that hands back bytes of one's own, the given ones ahead. -/
def GivesOn (w : World) (base : Nat) (v : Value) (l : List UInt8) (e : Ending) (w' : World) : Prop := ∃ v', e = .returned v' ∧ OwnB w' base v' l ∧ Below base w w' ∧ Adds w w' v v'

set_option maxRecDepth 100000 in
set_option maxHeartbeats 2000000 in
theorem high2_c (n : Nat) (w : World) (base : Nat) (hbase : base ≤ w.heap.size) (v : Value) (l : List UInt8) (hv : OwnB w base v l) (hl : l.length ≤ 1000000000) (hn : n < 9223372036854775808) :
    Calls Tryz.prog 182 #[v, .int .i64 n, .int .i64 2] w (GivesOn w base v (l ++ Wm.high n 2)) := by
  have h0 : (0 : Int) ≤ (n : Int) := by omega
  have h1 : (n : Int) < 9223372036854775808 := by omega
  have HB := Lib.hid (And.intro hbase hl)
  have HV := Lib.hid hv
  clear hbase hl hv
  go_enter Tryz.func182, Tryz.ntmps182
  go_wp2
  go_loopw [0, 7, 9] (fun x _ s wr => ∃ i : Nat, i ≤ 2 ∧ s = .int .i64 (i : Int) ∧ OwnB wr base x (l ++ hp n 2 i) ∧ Adds w wr v x ∧ w.heap.size ≤ wr.heap.size) (fun _ _ s _ => 2 - (intOf s).toNat)
  case atStart => exact ⟨0, by omega, rfl, by rw [show hp n 2 0 = [] from rfl, List.append_nil]; exact HV.out, Adds.refl _ _, Nat.le_refl _⟩
  case round =>
    obtain ⟨i, hi, rfl, hown, hb, hsz⟩ := hrel
    have HO := Lib.hid (And.intro hown (And.intro hb hsz))
    clear hown hb hsz
    by_cases hlt : i < 2
    · obtain rfl | rfl : i = 0 ∨ i = 1 := by omega
      · go_wp2_with (at_builtin; refine wpList_append_grow rfl (.tmp 12) (.tmp 21) rfl base _ (l ++ hp n 2 0) rfl (owns_below HO.out.1 ((Below.refl _ _).alloc (Nat.le_refl _) _) (Nat.le_refl _)) _ [UInt8.ofNat (n / 256 % 256)] (fun _ => True) rfl (one_byte wr _ _ (byte_of n 256 _ (by omega))) (by rw [List.length_append, hp_length]; have := HB.out.2; simp; omega) (by have := HB.out.1; have := HO.out.2.2; simp; omega) ?_; intro v' w2 ho hg)
        have H2 := Lib.hid (And.intro ho.out (HO.out.2.1.trans (((Adds.refl _ _).alloc _).trans hg.out)))
        have HS := Lib.hid hg.out.grown.size
        clear ho hg
        go_wp2
        go_roundw
        case rel => exact ⟨0 + 1, by omega, by go_num, by rw [hp_succ, ← List.append_assoc]; exact H2.out.1, H2.out.2, by have := HO.out.2.2; have := HS.out; simp at this; omega⟩
        case measure => simp [intOf]
      · go_wp2_with (at_builtin; refine wpList_append_grow rfl (.tmp 12) (.tmp 21) rfl base _ (l ++ hp n 2 1) rfl (owns_below HO.out.1 ((Below.refl _ _).alloc (Nat.le_refl _) _) (Nat.le_refl _)) _ [UInt8.ofNat (n / 1 % 256)] (fun _ => True) rfl (one_byte wr _ _ (byte_of n 1 _ (by omega))) (by rw [List.length_append, hp_length]; have := HB.out.2; simp; omega) (by have := HB.out.1; have := HO.out.2.2; simp; omega) ?_; intro v' w2 ho hg)
        have H2 := Lib.hid (And.intro ho.out (HO.out.2.1.trans (((Adds.refl _ _).alloc _).trans hg.out)))
        have HS := Lib.hid hg.out.grown.size
        clear ho hg
        go_wp2
        go_roundw
        case rel => exact ⟨1 + 1, by omega, by go_num, by rw [hp_succ, ← List.append_assoc]; exact H2.out.1, H2.out.2, by have := HO.out.2.2; have := HS.out; simp at this; omega⟩
        case measure => simp [intOf]
    · obtain rfl : i = 2 := by omega
      go_wp2
      go_ret
      exact ⟨_, rfl, HO.out.1, HO.out.2.1.below HV.out HB.out.1, HO.out.2.1⟩

set_option maxRecDepth 100000 in
set_option maxHeartbeats 2000000 in
theorem high4_c (n : Nat) (w : World) (base : Nat) (hbase : base ≤ w.heap.size) (v : Value) (l : List UInt8) (hv : OwnB w base v l) (hl : l.length ≤ 1000000000) (hn : n < 9223372036854775808) :
    Calls Tryz.prog 182 #[v, .int .i64 n, .int .i64 4] w (GivesOn w base v (l ++ Wm.high n 4)) := by
  have h0 : (0 : Int) ≤ (n : Int) := by omega
  have h1 : (n : Int) < 9223372036854775808 := by omega
  have HB := Lib.hid (And.intro hbase hl)
  have HV := Lib.hid hv
  clear hbase hl hv
  go_enter Tryz.func182, Tryz.ntmps182
  go_wp2
  go_loopw [0, 7, 9] (fun x _ s wr => ∃ i : Nat, i ≤ 4 ∧ s = .int .i64 (i : Int) ∧ OwnB wr base x (l ++ hp n 4 i) ∧ Adds w wr v x ∧ w.heap.size ≤ wr.heap.size) (fun _ _ s _ => 4 - (intOf s).toNat)
  case atStart => exact ⟨0, by omega, rfl, by rw [show hp n 4 0 = [] from rfl, List.append_nil]; exact HV.out, Adds.refl _ _, Nat.le_refl _⟩
  case round =>
    obtain ⟨i, hi, rfl, hown, hb, hsz⟩ := hrel
    have HO := Lib.hid (And.intro hown (And.intro hb hsz))
    clear hown hb hsz
    by_cases hlt : i < 4
    · obtain rfl | rfl | rfl | rfl : i = 0 ∨ i = 1 ∨ i = 2 ∨ i = 3 := by omega
      · go_wp2_with (at_builtin; refine wpList_append_grow rfl (.tmp 12) (.tmp 21) rfl base _ (l ++ hp n 4 0) rfl (owns_below HO.out.1 ((Below.refl _ _).alloc (Nat.le_refl _) _) (Nat.le_refl _)) _ [UInt8.ofNat (n / 16777216 % 256)] (fun _ => True) rfl (one_byte wr _ _ (byte_of n 16777216 _ (by omega))) (by rw [List.length_append, hp_length]; have := HB.out.2; simp; omega) (by have := HB.out.1; have := HO.out.2.2; simp; omega) ?_; intro v' w2 ho hg)
        have H2 := Lib.hid (And.intro ho.out (HO.out.2.1.trans (((Adds.refl _ _).alloc _).trans hg.out)))
        have HS := Lib.hid hg.out.grown.size
        clear ho hg
        go_wp2
        go_roundw
        case rel => exact ⟨0 + 1, by omega, by go_num, by rw [hp_succ, ← List.append_assoc]; exact H2.out.1, H2.out.2, by have := HO.out.2.2; have := HS.out; simp at this; omega⟩
        case measure => simp [intOf]
      · go_wp2_with (at_builtin; refine wpList_append_grow rfl (.tmp 12) (.tmp 21) rfl base _ (l ++ hp n 4 1) rfl (owns_below HO.out.1 ((Below.refl _ _).alloc (Nat.le_refl _) _) (Nat.le_refl _)) _ [UInt8.ofNat (n / 65536 % 256)] (fun _ => True) rfl (one_byte wr _ _ (byte_of n 65536 _ (by omega))) (by rw [List.length_append, hp_length]; have := HB.out.2; simp; omega) (by have := HB.out.1; have := HO.out.2.2; simp; omega) ?_; intro v' w2 ho hg)
        have H2 := Lib.hid (And.intro ho.out (HO.out.2.1.trans (((Adds.refl _ _).alloc _).trans hg.out)))
        have HS := Lib.hid hg.out.grown.size
        clear ho hg
        go_wp2
        go_roundw
        case rel => exact ⟨1 + 1, by omega, by go_num, by rw [hp_succ, ← List.append_assoc]; exact H2.out.1, H2.out.2, by have := HO.out.2.2; have := HS.out; simp at this; omega⟩
        case measure => simp [intOf]
      · go_wp2_with (at_builtin; refine wpList_append_grow rfl (.tmp 12) (.tmp 21) rfl base _ (l ++ hp n 4 2) rfl (owns_below HO.out.1 ((Below.refl _ _).alloc (Nat.le_refl _) _) (Nat.le_refl _)) _ [UInt8.ofNat (n / 256 % 256)] (fun _ => True) rfl (one_byte wr _ _ (byte_of n 256 _ (by omega))) (by rw [List.length_append, hp_length]; have := HB.out.2; simp; omega) (by have := HB.out.1; have := HO.out.2.2; simp; omega) ?_; intro v' w2 ho hg)
        have H2 := Lib.hid (And.intro ho.out (HO.out.2.1.trans (((Adds.refl _ _).alloc _).trans hg.out)))
        have HS := Lib.hid hg.out.grown.size
        clear ho hg
        go_wp2
        go_roundw
        case rel => exact ⟨2 + 1, by omega, by go_num, by rw [hp_succ, ← List.append_assoc]; exact H2.out.1, H2.out.2, by have := HO.out.2.2; have := HS.out; simp at this; omega⟩
        case measure => simp [intOf]
      · go_wp2_with (at_builtin; refine wpList_append_grow rfl (.tmp 12) (.tmp 21) rfl base _ (l ++ hp n 4 3) rfl (owns_below HO.out.1 ((Below.refl _ _).alloc (Nat.le_refl _) _) (Nat.le_refl _)) _ [UInt8.ofNat (n / 1 % 256)] (fun _ => True) rfl (one_byte wr _ _ (byte_of n 1 _ (by omega))) (by rw [List.length_append, hp_length]; have := HB.out.2; simp; omega) (by have := HB.out.1; have := HO.out.2.2; simp; omega) ?_; intro v' w2 ho hg)
        have H2 := Lib.hid (And.intro ho.out (HO.out.2.1.trans (((Adds.refl _ _).alloc _).trans hg.out)))
        have HS := Lib.hid hg.out.grown.size
        clear ho hg
        go_wp2
        go_roundw
        case rel => exact ⟨3 + 1, by omega, by go_num, by rw [hp_succ, ← List.append_assoc]; exact H2.out.1, H2.out.2, by have := HO.out.2.2; have := HS.out; simp at this; omega⟩
        case measure => simp [intOf]
    · obtain rfl : i = 4 := by omega
      go_wp2
      go_ret
      exact ⟨_, rfl, HO.out.1, HO.out.2.1.below HV.out HB.out.1, HO.out.2.1⟩

set_option maxRecDepth 100000 in
set_option maxHeartbeats 2000000 in
theorem high8_c (n : Nat) (w : World) (base : Nat) (hbase : base ≤ w.heap.size) (v : Value) (l : List UInt8) (hv : OwnB w base v l) (hl : l.length ≤ 1000000000) (hn : n < 9223372036854775808) :
    Calls Tryz.prog 182 #[v, .int .i64 n, .int .i64 8] w (GivesOn w base v (l ++ Wm.high n 8)) := by
  have h0 : (0 : Int) ≤ (n : Int) := by omega
  have h1 : (n : Int) < 9223372036854775808 := by omega
  have HB := Lib.hid (And.intro hbase hl)
  have HV := Lib.hid hv
  clear hbase hl hv
  go_enter Tryz.func182, Tryz.ntmps182
  go_wp2
  go_loopw [0, 7, 9] (fun x _ s wr => ∃ i : Nat, i ≤ 8 ∧ s = .int .i64 (i : Int) ∧ OwnB wr base x (l ++ hp n 8 i) ∧ Adds w wr v x ∧ w.heap.size ≤ wr.heap.size) (fun _ _ s _ => 8 - (intOf s).toNat)
  case atStart => exact ⟨0, by omega, rfl, by rw [show hp n 8 0 = [] from rfl, List.append_nil]; exact HV.out, Adds.refl _ _, Nat.le_refl _⟩
  case round =>
    obtain ⟨i, hi, rfl, hown, hb, hsz⟩ := hrel
    have HO := Lib.hid (And.intro hown (And.intro hb hsz))
    clear hown hb hsz
    by_cases hlt : i < 8
    · obtain rfl | rfl | rfl | rfl | rfl | rfl | rfl | rfl : i = 0 ∨ i = 1 ∨ i = 2 ∨ i = 3 ∨ i = 4 ∨ i = 5 ∨ i = 6 ∨ i = 7 := by omega
      · go_wp2_with (at_builtin; refine wpList_append_grow rfl (.tmp 12) (.tmp 21) rfl base _ (l ++ hp n 8 0) rfl (owns_below HO.out.1 ((Below.refl _ _).alloc (Nat.le_refl _) _) (Nat.le_refl _)) _ [UInt8.ofNat (n / 72057594037927936 % 256)] (fun _ => True) rfl (one_byte wr _ _ (byte_of n 72057594037927936 _ (by omega))) (by rw [List.length_append, hp_length]; have := HB.out.2; simp; omega) (by have := HB.out.1; have := HO.out.2.2; simp; omega) ?_; intro v' w2 ho hg)
        have H2 := Lib.hid (And.intro ho.out (HO.out.2.1.trans (((Adds.refl _ _).alloc _).trans hg.out)))
        have HS := Lib.hid hg.out.grown.size
        clear ho hg
        go_wp2
        go_roundw
        case rel => exact ⟨0 + 1, by omega, by go_num, by rw [hp_succ, ← List.append_assoc]; exact H2.out.1, H2.out.2, by have := HO.out.2.2; have := HS.out; simp at this; omega⟩
        case measure => simp [intOf]
      · go_wp2_with (at_builtin; refine wpList_append_grow rfl (.tmp 12) (.tmp 21) rfl base _ (l ++ hp n 8 1) rfl (owns_below HO.out.1 ((Below.refl _ _).alloc (Nat.le_refl _) _) (Nat.le_refl _)) _ [UInt8.ofNat (n / 281474976710656 % 256)] (fun _ => True) rfl (one_byte wr _ _ (byte_of n 281474976710656 _ (by omega))) (by rw [List.length_append, hp_length]; have := HB.out.2; simp; omega) (by have := HB.out.1; have := HO.out.2.2; simp; omega) ?_; intro v' w2 ho hg)
        have H2 := Lib.hid (And.intro ho.out (HO.out.2.1.trans (((Adds.refl _ _).alloc _).trans hg.out)))
        have HS := Lib.hid hg.out.grown.size
        clear ho hg
        go_wp2
        go_roundw
        case rel => exact ⟨1 + 1, by omega, by go_num, by rw [hp_succ, ← List.append_assoc]; exact H2.out.1, H2.out.2, by have := HO.out.2.2; have := HS.out; simp at this; omega⟩
        case measure => simp [intOf]
      · go_wp2_with (at_builtin; refine wpList_append_grow rfl (.tmp 12) (.tmp 21) rfl base _ (l ++ hp n 8 2) rfl (owns_below HO.out.1 ((Below.refl _ _).alloc (Nat.le_refl _) _) (Nat.le_refl _)) _ [UInt8.ofNat (n / 1099511627776 % 256)] (fun _ => True) rfl (one_byte wr _ _ (byte_of n 1099511627776 _ (by omega))) (by rw [List.length_append, hp_length]; have := HB.out.2; simp; omega) (by have := HB.out.1; have := HO.out.2.2; simp; omega) ?_; intro v' w2 ho hg)
        have H2 := Lib.hid (And.intro ho.out (HO.out.2.1.trans (((Adds.refl _ _).alloc _).trans hg.out)))
        have HS := Lib.hid hg.out.grown.size
        clear ho hg
        go_wp2
        go_roundw
        case rel => exact ⟨2 + 1, by omega, by go_num, by rw [hp_succ, ← List.append_assoc]; exact H2.out.1, H2.out.2, by have := HO.out.2.2; have := HS.out; simp at this; omega⟩
        case measure => simp [intOf]
      · go_wp2_with (at_builtin; refine wpList_append_grow rfl (.tmp 12) (.tmp 21) rfl base _ (l ++ hp n 8 3) rfl (owns_below HO.out.1 ((Below.refl _ _).alloc (Nat.le_refl _) _) (Nat.le_refl _)) _ [UInt8.ofNat (n / 4294967296 % 256)] (fun _ => True) rfl (one_byte wr _ _ (byte_of n 4294967296 _ (by omega))) (by rw [List.length_append, hp_length]; have := HB.out.2; simp; omega) (by have := HB.out.1; have := HO.out.2.2; simp; omega) ?_; intro v' w2 ho hg)
        have H2 := Lib.hid (And.intro ho.out (HO.out.2.1.trans (((Adds.refl _ _).alloc _).trans hg.out)))
        have HS := Lib.hid hg.out.grown.size
        clear ho hg
        go_wp2
        go_roundw
        case rel => exact ⟨3 + 1, by omega, by go_num, by rw [hp_succ, ← List.append_assoc]; exact H2.out.1, H2.out.2, by have := HO.out.2.2; have := HS.out; simp at this; omega⟩
        case measure => simp [intOf]
      · go_wp2_with (at_builtin; refine wpList_append_grow rfl (.tmp 12) (.tmp 21) rfl base _ (l ++ hp n 8 4) rfl (owns_below HO.out.1 ((Below.refl _ _).alloc (Nat.le_refl _) _) (Nat.le_refl _)) _ [UInt8.ofNat (n / 16777216 % 256)] (fun _ => True) rfl (one_byte wr _ _ (byte_of n 16777216 _ (by omega))) (by rw [List.length_append, hp_length]; have := HB.out.2; simp; omega) (by have := HB.out.1; have := HO.out.2.2; simp; omega) ?_; intro v' w2 ho hg)
        have H2 := Lib.hid (And.intro ho.out (HO.out.2.1.trans (((Adds.refl _ _).alloc _).trans hg.out)))
        have HS := Lib.hid hg.out.grown.size
        clear ho hg
        go_wp2
        go_roundw
        case rel => exact ⟨4 + 1, by omega, by go_num, by rw [hp_succ, ← List.append_assoc]; exact H2.out.1, H2.out.2, by have := HO.out.2.2; have := HS.out; simp at this; omega⟩
        case measure => simp [intOf]
      · go_wp2_with (at_builtin; refine wpList_append_grow rfl (.tmp 12) (.tmp 21) rfl base _ (l ++ hp n 8 5) rfl (owns_below HO.out.1 ((Below.refl _ _).alloc (Nat.le_refl _) _) (Nat.le_refl _)) _ [UInt8.ofNat (n / 65536 % 256)] (fun _ => True) rfl (one_byte wr _ _ (byte_of n 65536 _ (by omega))) (by rw [List.length_append, hp_length]; have := HB.out.2; simp; omega) (by have := HB.out.1; have := HO.out.2.2; simp; omega) ?_; intro v' w2 ho hg)
        have H2 := Lib.hid (And.intro ho.out (HO.out.2.1.trans (((Adds.refl _ _).alloc _).trans hg.out)))
        have HS := Lib.hid hg.out.grown.size
        clear ho hg
        go_wp2
        go_roundw
        case rel => exact ⟨5 + 1, by omega, by go_num, by rw [hp_succ, ← List.append_assoc]; exact H2.out.1, H2.out.2, by have := HO.out.2.2; have := HS.out; simp at this; omega⟩
        case measure => simp [intOf]
      · go_wp2_with (at_builtin; refine wpList_append_grow rfl (.tmp 12) (.tmp 21) rfl base _ (l ++ hp n 8 6) rfl (owns_below HO.out.1 ((Below.refl _ _).alloc (Nat.le_refl _) _) (Nat.le_refl _)) _ [UInt8.ofNat (n / 256 % 256)] (fun _ => True) rfl (one_byte wr _ _ (byte_of n 256 _ (by omega))) (by rw [List.length_append, hp_length]; have := HB.out.2; simp; omega) (by have := HB.out.1; have := HO.out.2.2; simp; omega) ?_; intro v' w2 ho hg)
        have H2 := Lib.hid (And.intro ho.out (HO.out.2.1.trans (((Adds.refl _ _).alloc _).trans hg.out)))
        have HS := Lib.hid hg.out.grown.size
        clear ho hg
        go_wp2
        go_roundw
        case rel => exact ⟨6 + 1, by omega, by go_num, by rw [hp_succ, ← List.append_assoc]; exact H2.out.1, H2.out.2, by have := HO.out.2.2; have := HS.out; simp at this; omega⟩
        case measure => simp [intOf]
      · go_wp2_with (at_builtin; refine wpList_append_grow rfl (.tmp 12) (.tmp 21) rfl base _ (l ++ hp n 8 7) rfl (owns_below HO.out.1 ((Below.refl _ _).alloc (Nat.le_refl _) _) (Nat.le_refl _)) _ [UInt8.ofNat (n / 1 % 256)] (fun _ => True) rfl (one_byte wr _ _ (byte_of n 1 _ (by omega))) (by rw [List.length_append, hp_length]; have := HB.out.2; simp; omega) (by have := HB.out.1; have := HO.out.2.2; simp; omega) ?_; intro v' w2 ho hg)
        have H2 := Lib.hid (And.intro ho.out (HO.out.2.1.trans (((Adds.refl _ _).alloc _).trans hg.out)))
        have HS := Lib.hid hg.out.grown.size
        clear ho hg
        go_wp2
        go_roundw
        case rel => exact ⟨7 + 1, by omega, by go_num, by rw [hp_succ, ← List.append_assoc]; exact H2.out.1, H2.out.2, by have := HO.out.2.2; have := HS.out; simp at this; omega⟩
        case measure => simp [intOf]
    · obtain rfl : i = 8 := by omega
      go_wp2
      go_ret
      exact ⟨_, rfl, HO.out.1, HO.out.2.1.below HV.out HB.out.1, HO.out.2.1⟩

end Go.Proofs.YtgffifleflkjoaaGreat

namespace Go.Proofs.YtgffifleflkjoaaGreat
open Go.RowKit

set_option maxRecDepth 100000 in
set_option maxHeartbeats 2000000 in
theorem number_c (n : Nat) (w : World) (base : Nat) (hbase : base ≤ w.heap.size) (v : Value) (l : List UInt8) (hv : OwnB w base v l) (hl : l.length ≤ 999999999) (hn : n < 9223372036854775808) :
    Calls Tryz.prog 158 #[v, .int .i64 n] w (GivesOn w base v (l ++ Wm.wnum n)) := by
  have h0 : (0 : Int) ≤ (n : Int) := by omega
  have h1 : (n : Int) < 9223372036854775808 := by omega
  have HB := Lib.hid (And.intro hbase hl)
  have HV := Lib.hid hv
  have HN := Lib.hid hn
  clear hbase hl hv hn
  by_cases c1 : n < 253
  · have d1 : (n : Int) < 253 := by omega
    have HW := Lib.hid (show Wm.wnum n = [UInt8.ofNat (n / 1 % 256)] by unfold Wm.wnum; rw [if_pos c1, Nat.div_one, Nat.mod_eq_of_lt (by omega)])
    clear c1
    go_enter Tryz.func158, Tryz.ntmps158
    go_wp2_with (at_builtin; refine wpList_append_grow rfl (.tmp 8) (.tmp 11) rfl base _ l rfl (owns_below HV.out ((Below.refl _ _).alloc (Nat.le_refl _) _) (Nat.le_refl _)) _ [UInt8.ofNat (n / 1 % 256)] (fun _ => True) rfl (one_byte w _ _ (byte_of n 1 _ (by omega))) (by have := HB.out.2; simp; omega) (by have := HB.out.1; simp; omega) ?_; intro v' w2 ho hg)
    go_ret
    have G := (((Adds.refl w v).alloc _).trans hg.out)
    exact ⟨_, rfl, by rw [HW.out]; exact ho.out, G.below HV.out HB.out.1, G⟩
  · have d1 : ¬ (n : Int) < 253 := by omega
    by_cases c2 : n < 65536
    · have d2 : (n : Int) < 65536 := by omega
      have HW := Lib.hid (show Wm.wnum n = [253] ++ Wm.high n 2 by unfold Wm.wnum; rw [if_neg c1, if_pos c2]; rfl)
      clear c1 c2
      go_enter Tryz.func158, Tryz.ntmps158
      go_wp2_with (first
        | (at_builtin; refine wpList_append_grow rfl (.tmp 16) (.tmp 17) rfl base _ l rfl (owns_below HV.out ((Below.refl _ _).alloc (Nat.le_refl _) _) (Nat.le_refl _)) _ [253] (fun _ => True) rfl (one_byte w _ _ rfl) (by have := HB.out.2; simp; omega) (by have := HB.out.1; simp; omega) ?_; intro v' w2 ho hg
           have H2 := Lib.hid (And.intro ho.out (And.intro (((Adds.refl w v).alloc _).trans hg.out) hg.out.grown.size))
           clear ho hg)
        | (go_at_call 182; refine (high2_c n w2 base (by have a := H2.out.2.2; have b := HB.out.1; simp only [World.alloc, Array.size_push] at a; omega) v' (l ++ [253]) H2.out.1 (by have := HB.out.2; simp; omega) HN.out).mono ?_; rintro e w3 ⟨v3, rfl, o3, b3⟩))
      go_ret
      have G := H2.out.2.1.trans b3.2
      exact ⟨_, rfl, by rw [HW.out, ← List.append_assoc]; exact o3, G.below HV.out HB.out.1, G⟩
    · have d2 : ¬ (n : Int) < 65536 := by omega
      by_cases c3 : n < 4294967296
      · have d3 : (n : Int) < 4294967296 := by omega
        have HW := Lib.hid (show Wm.wnum n = [254] ++ Wm.high n 4 by unfold Wm.wnum; rw [if_neg c1, if_neg c2, if_pos c3]; rfl)
        clear c1 c2 c3
        go_enter Tryz.func158, Tryz.ntmps158
        go_wp2_with (first
          | (at_builtin; refine wpList_append_grow rfl (.tmp 24) (.tmp 25) rfl base _ l rfl (owns_below HV.out ((Below.refl _ _).alloc (Nat.le_refl _) _) (Nat.le_refl _)) _ [254] (fun _ => True) rfl (one_byte w _ _ rfl) (by have := HB.out.2; simp; omega) (by have := HB.out.1; simp; omega) ?_; intro v' w2 ho hg
             have H2 := Lib.hid (And.intro ho.out (And.intro (((Adds.refl w v).alloc _).trans hg.out) hg.out.grown.size))
             clear ho hg)
          | (go_at_call 182; refine (high4_c n w2 base (by have a := H2.out.2.2; have b := HB.out.1; simp only [World.alloc, Array.size_push] at a; omega) v' (l ++ [254]) H2.out.1 (by have := HB.out.2; simp; omega) HN.out).mono ?_; rintro e w3 ⟨v3, rfl, o3, b3⟩))
        go_ret
        have G := H2.out.2.1.trans b3.2
        exact ⟨_, rfl, by rw [HW.out, ← List.append_assoc]; exact o3, G.below HV.out HB.out.1, G⟩
      · have d3 : ¬ (n : Int) < 4294967296 := by omega
        have HW := Lib.hid (show Wm.wnum n = [255] ++ Wm.high n 8 by unfold Wm.wnum; rw [if_neg c1, if_neg c2, if_neg c3]; rfl)
        clear c1 c2 c3
        go_enter Tryz.func158, Tryz.ntmps158
        go_wp2_with (first
          | (at_builtin; refine wpList_append_grow rfl (.tmp 29) (.tmp 30) rfl base _ l rfl (owns_below HV.out ((Below.refl _ _).alloc (Nat.le_refl _) _) (Nat.le_refl _)) _ [255] (fun _ => True) rfl (one_byte w _ _ rfl) (by have := HB.out.2; simp; omega) (by have := HB.out.1; simp; omega) ?_; intro v' w2 ho hg
             have H2 := Lib.hid (And.intro ho.out (And.intro (((Adds.refl w v).alloc _).trans hg.out) hg.out.grown.size))
             clear ho hg)
          | (go_at_call 182; refine (high8_c n w2 base (by have a := H2.out.2.2; have b := HB.out.1; simp only [World.alloc, Array.size_push] at a; omega) v' (l ++ [255]) H2.out.1 (by have := HB.out.2; simp; omega) HN.out).mono ?_; rintro e w3 ⟨v3, rfl, o3, b3⟩))
        go_ret
        have G := H2.out.2.1.trans b3.2
        exact ⟨_, rfl, by rw [HW.out, ← List.append_assoc]; exact o3, G.below HV.out HB.out.1, G⟩

end Go.Proofs.YtgffifleflkjoaaGreat

namespace Go.Proofs.YtgffifleflkjoaaGreat
open Go.RowKit

theorem big_not {n : Nat} (h : n ≤ 36028797018963968) : ¬ (36028797018963968 : Int) < (n : Int) := by omega
theorem big_is {n : Nat} (h : ¬ n ≤ 36028797018963968) : (36028797018963968 : Int) < (n : Int) := by omega
theorem wrap_small {n : Nat} (h : n ≤ 9223372036854775807) : wrap64 (n : Int) = n := by unfold wrap64; omega

theorem or_low (n x : Nat) (hn : n ≤ 36028797018963968) (hx : x < 256) : bits .or .i64 (wrap64 ((n : Int) * 256)) (x : Int) = wrap64 ((256 * n + x : Nat) : Int) := by
  show IntKind.i64.wrap ((BitVec.ofInt 64 (wrap64 ((n : Int) * 256)) ||| BitVec.ofInt 64 (x : Int)).toNat : Int) = _
  have a1 : (BitVec.ofInt 64 (wrap64 ((n : Int) * 256))).toNat = n * 256 := by
    rw [BitVec.toNat_ofInt]
    unfold wrap64
    omega
  have a2 : (BitVec.ofInt 64 (x : Int)).toNat = x := by
    rw [BitVec.toNat_ofInt]
    omega
  have a3 : n * 256 ||| x = 256 * n + x := by
    have h := Nat.two_pow_add_eq_or_of_lt (i := 8) (b := x) hx n
    rw [show n * 256 = 2 ^ 8 * n by omega, ← h]
  rw [BitVec.toNat_or, a1, a2, a3]
  rw [IntKind.wrap_i64]
  unfold wrap64
  rfl

/-- The number of the first so many bytes. -/
def nk (l : List UInt8) (i : Nat) : Nat := Wm.hnum (l.take i)

theorem nk_succ (l : List UInt8) (i : Nat) (x : UInt8) (h : l[i]? = some x) : nk l (i + 1) = 256 * nk l i + x.toNat := by
  unfold nk Wm.hnum
  rw [List.take_add_one, h]
  simp [List.foldl_append]

theorem nk_zero (l : List UInt8) : nk l 0 = 0 := rfl

theorem nk_grows (l : List UInt8) (i j : Nat) (h : i + j ≤ l.length) : 256 ^ j * nk l i ≤ nk l (i + j) := by
  induction j with
  | zero => simp
  | succ j ih =>
    have hx := List.getElem?_eq_getElem (l := l) (i := i + j) (by omega)
    have e := nk_succ l (i + j) _ hx
    rw [← Nat.add_assoc, e, Nat.pow_succ, Nat.mul_comm (256 ^ j) 256, Nat.mul_assoc]
    have := ih (by omega)
    omega

theorem nk_lt (l : List UInt8) (i : Nat) (h : i ≤ l.length) : nk l i < 256 ^ i := by
  induction i with
  | zero => simp [nk_zero]
  | succ i ih =>
    have hx := List.getElem?_eq_getElem (l := l) (i := i) (by omega)
    have e := nk_succ l i _ hx
    have := ih (by omega)
    have h2 := (l[i]'(by omega)).toNat_lt
    rw [e, Nat.pow_succ]
    omega

theorem first_bad (c : UInt8) (l : List UInt8) (i : Nat) (h0 : Wm.many c ≠ 0) (hf : Wm.many c ≤ l.length) (hi : i < Wm.many c) (hbig : ¬ nk l i ≤ 36028797018963968) : Wm.first (c :: l) = (0, -1) := by
  have hg := nk_grows l i (Wm.many c - i) (by omega)
  rw [show i + (Wm.many c - i) = Wm.many c by omega] at hg
  have hp : 256 ≤ 256 ^ (Wm.many c - i) := by
    obtain ⟨d, hd⟩ : ∃ d, Wm.many c - i = d + 1 := ⟨Wm.many c - i - 1, by omega⟩
    rw [hd, Nat.pow_succ]
    have := Nat.one_le_two_pow (n := 8 * d)
    have h1 : 0 < 256 ^ d := Nat.pow_pos (by decide)
    omega
  have hm := Nat.mul_le_mul_right (nk l i) hp
  have ht : Wm.topN < nk l (Wm.many c) := by unfold Wm.topN; omega
  show (if Wm.many c = 0 then (c.toNat, (1 : Int)) else if l.length < Wm.many c then (0, 0) else if Wm.hnum (l.take (Wm.many c)) > Wm.topN ∨ (Wm.wnum (Wm.hnum (l.take (Wm.many c)))).length ≠ 1 + Wm.many c then (0, -1) else (Wm.hnum (l.take (Wm.many c)), 1 + (Wm.many c : Int))) = (0, -1)
  rw [if_neg h0, if_neg (by omega)]
  exact if_pos (Or.inl ht)

set_option maxRecDepth 100000 in
set_option maxHeartbeats 2000000 in
theorem number_neg (x : Int) (w : World) (hx : x < 0) :
    Calls Tryz.prog 158 #[.slice none 0 0, .int .i64 x] w fun e w' => ∃ u : UInt8, GivesOn w w.heap.size (.slice none 0 0) [u] e w' := by
  have d1 : x < 253 := by omega
  have hb : x % 256 = ((UInt8.ofNat (x % 256).toNat).toNat : Int) := by
    rw [UInt8.toNat_ofNat']
    omega
  have HB := Lib.hid hb
  clear hb
  go_enter Tryz.func158, Tryz.ntmps158
  go_wp2_with (at_builtin; refine wpList_append_grow rfl (.tmp 8) (.tmp 11) rfl w.heap.size _ [] rfl (own_nil _ _) _ [UInt8.ofNat (x % 256).toNat] (fun _ => True) rfl (one_byte w _ _ HB.out) (by simp) (by simp) ?_; intro v' w2 ho hg)
  go_ret
  have G := (((Adds.refl w (.slice none 0 0)).alloc _).trans hg.out)
  exact ⟨_, _, rfl, ho.out, G.below (own_nil _ _) (Nat.le_refl _), G⟩

theorem first_eq (c : UInt8) (l : List UInt8) (h0 : Wm.many c ≠ 0) (hf : Wm.many c ≤ l.length) :
    Wm.first (c :: l) = if nk l (Wm.many c) > Wm.topN ∨ (Wm.wnum (nk l (Wm.many c))).length ≠ 1 + Wm.many c then (0, -1) else (nk l (Wm.many c), 1 + (Wm.many c : Int)) := by
  show (if Wm.many c = 0 then (c.toNat, (1 : Int)) else if l.length < Wm.many c then (0, 0) else _) = _
  rw [if_neg h0, if_neg (by omega)]
  rfl

theorem top_not {n : Nat} (h : n ≤ 4611686018427387904) : ¬ (4611686018427387904 : Int) < (n : Int) := by omega
theorem top_is {n : Nat} (h : ¬ n ≤ 4611686018427387904) : (4611686018427387904 : Int) < (n : Int) := by omega
theorem top_lt {n : Nat} (h : n ≤ 4611686018427387904) : n < 9223372036854775808 := by omega

theorem first_good (c : UInt8) (l : List UInt8) (h0 : Wm.many c ≠ 0) (hf : Wm.many c ≤ l.length) (ht : nk l (Wm.many c) ≤ 4611686018427387904) (hq : (Wm.wnum (nk l (Wm.many c))).length = 1 + Wm.many c) :
    Wm.first (c :: l) = (nk l (Wm.many c), 1 + (Wm.many c : Int)) := by
  rw [first_eq c l h0 hf]
  refine if_neg fun h => ?_
  rcases h with h | h
  · exact absurd ht (Nat.not_le.2 h)
  · exact h hq

theorem first_none (c : UInt8) (l : List UInt8) (h0 : Wm.many c ≠ 0) (hf : Wm.many c ≤ l.length) (h : ¬ nk l (Wm.many c) ≤ 4611686018427387904 ∨ (Wm.wnum (nk l (Wm.many c))).length ≠ 1 + Wm.many c) :
    Wm.first (c :: l) = (0, -1) := by
  rw [first_eq c l h0 hf]
  exact if_pos (h.imp Nat.not_le.1 id)

theorem wrap_neg {n : Nat} (h1 : ¬ n ≤ 9223372036854775807) (h2 : n ≤ 9223372036854776063) : wrap64 (n : Int) < 0 := by unfold wrap64; omega

theorem nk_top (l : List UInt8) (k : Nat) (hk : k + 1 ≤ l.length) (h : nk l k ≤ 36028797018963968) : nk l (k + 1) ≤ 9223372036854776063 := by
  rw [nk_succ l k _ (List.getElem?_eq_getElem (by omega))]
  have := (l[k]'(by omega)).toNat_lt
  omega

end Go.Proofs.YtgffifleflkjoaaGreat
