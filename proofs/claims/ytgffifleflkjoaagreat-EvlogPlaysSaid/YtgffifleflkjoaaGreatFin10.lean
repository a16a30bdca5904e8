/-
  Parts of a proof.
-/
import Derived.Test.YtgffifleflkjoaaGreatFin09
import Derived.Laws.AppendOwnNone
set_option linter.unusedSimpArgs false
set_option linter.unusedVariables false
set_option maxRecDepth 100000
set_option maxHeartbeats 16000000
namespace Go.Proofs.YtgffifleflkjoaaGreat
open _root_.Go.Proofs.Tryz
variable {w W w' w0 wr w1 W0 W1 W2 A B : World} {F G F' O : Nat → Prop} {v : Value} {l : List UInt8} {n q m pd md pl g p : Nat} {C : Array Value} {c : Int}
open Go.RowKit Dm
def FreshBytes (h : Array Obj) (base : Nat) (v : Value) (l : List UInt8) : Prop :=
 (v = .slice none 0 0 /\ l = []) \/ ∃ (b cap : Nat) (c : Array Value) (t : TypeId), v = .slice (some ⟨b, 0, none⟩) l.length cap /\ l.length <= cap /\ cap <= 9223372036854775807 ∧
  base <= b /\ h[b]? = some (.cells c t (0, 0)) /\ ∀ (i : Nat) (x : UInt8), l[i]? = some x -> c[i]? = some (bO x)
theorem FreshBytes.bytes {h : Array Obj} {base : Nat} (x : FreshBytes h base v l) : BytesAt h (λ k => base <= k) v l := by
 rcases x with x | ⟨b, cap, c, t, h1, h2, h3, h4, h5, h6⟩
 ·exact IB x
 ·exact IC ⟨b, 0, cap, c, t, (0, 0), h1, h2, h3, h4, h5, λ i x hi => by rw [Ja]; exact h6 i x hi⟩
theorem FreshBytes.mono {h : Array Obj} {base base' : Nat} (x : FreshBytes h base v l) (hb : base' <= base) : FreshBytes h base' v l := by
 rcases x with x | ⟨b, cap, c, t, h1, h2, h3, h4, h5, h6⟩
 ·exact IB x
 ·exact IC ⟨b, cap, c, t, h1, h2, h3, GX, h5, h6⟩
theorem y0x {base : Nat} (h : w.ownsRow base bV 1 v n (l.map bO)) (hn : n = l.length) : FreshBytes w.heap base v l := by
 subst hn;obtain ⟨_, h⟩ := h;rcases h with ⟨rfl, h⟩ | ⟨g, cap, cur, rfl, hg, hh, h1, h2, h3, h4⟩
 ·exact IB ⟨rfl, by simpa using h⟩
 ·refine IC ⟨g, cap, cur, bV, rfl, h1, by unfold maxLen at h2; omega, hg, hh, λ i x hi => ?_⟩
  have hlt : i < l.length := (I4.1 hi).1;have e : (cur.toList.take (l.length * 1))[i]? = some (bO x) := by rw [h4]; simp [hi]
  rw [JR, IE GX] at e;simpa using e
def y3z (w : World) (l : List UInt8) (e : Ending) (w' : World) : Prop := ∃ v', e = .returned v' /\ Below w.heap.size w w' /\ FreshBytes w'.heap w.heap.size v' l
theorem x8q (b o cap : Nat) (l : List UInt8) (w : World) (hl : l.length <= 1099511627776) (hc : ∀ i x, l[i]? = some x -> w.cell? ⟨b, o + i, none⟩ = some (bO x)) :
 Calls prog 98 #[.slice (some (b, o)) l.length cap] w (y3z w l) := by
 obtain ⟨i0, hi, hz0, hz1, hz2⟩ := JL infoByte
 have hown : (w.alloc (.cells #[] bV)).ownsRow w.heap.size bV 1 (.slice (some w.heap.size) 0 0) 0 [] :=
  ⟨rfl, IC ⟨w.heap.size, 0, #[], rfl, Nat.le_refl _, II _ _, Nat.le_refl _, IY _, rfl, rfl⟩⟩
 have HC := hd1 hc;have HO := hd1 hown;have HI := hd4 hi hz0 hz1 hz2;clear hc hown hi hz0 hz1 hz2;have s2 : ∀ j u, (l.map bO)[j]? = some u -> (w.alloc (.cells #[] bV)).cell? ((⟨b, o, none⟩ : Addr).add j) = some u := by
  exact PD
 have s3 : ∀ u ∈ l.map bO, u.oneCell' = true := by
  intro u hu;exact QA
 have HS := hd2 s2 s3;clear s2 s3;have hnil := λ (w : World) (a : Option Addr) (n c : Nat) => K5 (P := prog) w 31 bV a n c 0 0 Ih;go_in;go_wp2_with (at_builtin; refine Kn _ rfl (.tmp 5) (.tmp 6) 31 rfl w.heap.size bV i0 (.int .u8 0) 1 1 Ih HI.1 HI.2.1 HI.2.2.1 HI.2.2.2 rfl GY _ 0 [] rfl HO.out ⟨b, o, none⟩ l.length cap (l.map bO) rfl GZ HS.1 HS.2 Ns GX GZ ?_; intro v' w1 hown1 hgrow _)
 go_ret;refine ⟨_, rfl, ((bla).grown hgrow GZ (λ k e => by cases e; exact Nat.le_refl _)), ?_⟩;rw [Jj] at hown1;exact y0x hown1 GZ
theorem x8p (x : BytesAt w.heap G v l) (hl : l.length <= 1099511627776) : Calls prog 98 #[v] w (y3z w l) := by
 rcases x with ⟨rfl, rfl⟩ | ⟨b, o, cap, c, t, fr, rfl, h2, h3, g2, g3, g4⟩
 ·refine (y1s w).mono ?_
  exact Qr
 ·exact x8q b o cap l w hl (λ i x hi => (IM _ _ _ _ _ _ g3).trans (g4 i x hi))
theorem y5j (p : Nat) (t : Int) (w : World) (h : w.cell? (p, 16) = some (.bool true)) (hn : t < 0 \/ 4 <= t) : Calls prog 61 #[p, .int .i64 t] w λ e w' => e = .returned (.tuple #[.slice none 0 0, .int .i64 4]) /\ w = w' := by
 by_cases hn0 : t < 0
 all_goals
  have hn2 : ¬ t < 0 -> 4 <= t := λ h => GX;simp only [hn0, not_true_eq_false, Lx, forall_const, false_implies] at hn2;go_in;go_wp2_with (go_at_call 45; refine (gW p true _ h).mono ?_; rintro e w' ⟨rfl, rfl⟩)
  go_ret2;exact ⟨rfl, rfl⟩
theorem y5i (p t : Nat) (v : Value) (l : List UInt8) (w : World) (F : Nat -> Prop) (h : w.cell? (p, 16) = some (.bool true)) (ht : t < 4) (hq : w.cell? (p, 1 + t) = some v) (hv : BytesAt w.heap F v l) (hl : l.length <= 1099511627776) :
 Calls prog 61 #[p, .int .i64 t] w λ e w' => ∃ v', e = .returned (.tuple #[v', .int .i64 0]) /\ Below w w w' /\ FreshBytes w'.heap w.heap.size v' l := by
 have h1 : ¬ (t : Int) < 0 := GX;have h2 : ¬ 4 <= (t : Int) := GX;have h4 : (0 : Int) <= t := GX;have h5 : (t : Int) < 4 := GX;have h6 : ¬ 4 <= t := GX;have H := hd1 (x8p hv hl);clear hv;go_in;go_wp2_with (first | (go_at_call 45; refine (gW p true _ h).mono ?_; rintro e w' ⟨rfl, rfl⟩) | (go_at_call 98; refine H.mono ?_; rintro e w' ⟨v', rfl, hb⟩))
 go_ret2;exact ⟨v', rfl, hb⟩
def w0d (w : World) (l : List UInt8) (c : Int) (e : Ending) (w' : World) : Prop := ∃ v', e = .returned (.tuple #[v', .int .i64 c]) /\ Below w.heap.size w w' /\ FreshBytes w'.heap w.heap.size v' l
theorem EA {d : D} (x : aQ w.heap p m d F) (t : Int) : Calls prog 61 #[p, .int .i64 t] w
 (w0d w (if t < 0 \/ t > 3 then [] else d.stand.tp t) (if t < 0 \/ t > 3 then 4 else 0)) := by
 obtain ⟨k16, k11, k12, k13⟩ := x.lQ;by_cases h1 : t < 0 \/ t > 3
 ·rw [IE h1, IE h1]
  refine (y5j p t w k16 GX).mono ?_;exact Qr
 ·rw [IA h1, IA h1]
  obtain ⟨t, rfl, ht⟩ := lF (n := t) (k := 3) GX GX;obtain ⟨ml, l0, l1, l2, l3, wv, stops, after, sa, ra⟩ := x.parts;obtain ⟨v, hv, hf, bv⟩ := sa.cell.2 t GX;have := kK x.ok t;have := x.ok.fE;exact y5i p t v _ w F k16 GX hv bv GX
def qw (w : World) (size : Nat) (v : Value) (m : Nat) (news : List Value) : Prop :=
 (v = .slice none 0 0 /\ m = 0 /\ news = []) \/ ∃ ad c, v = .slice (some ad) m c /\ news.length = m * size /\ (∀ (j : Nat) u, news[j]? = some u -> w.cell? (ad.add j) = some u) /\ ∀ u ∈ news, u.oneCell' = true
section
variable {P : Program} {ops : Array Oper}
theorem ng {rest : List Oper} {o : Oper} {a : Act} {Q : Exit -> Act -> World -> Prop} (hgd : o.guard = none) (s x : Operand) (t : TypeId)
 (ho : o.op = .call { callee := .builtin .append, args := #[s, x], argTypes := #[t, t] })
 (B base : Nat) (w0 : World) (hb : Below B w0 w) (hB : B <= base) (e : TypeId) (z : Value) (size bytes : Nat) (ht : P.underlying t = some (.slice e)) (hi : (P.info? e).map (λ i => (i.zero, i.size, i.bytes)) = some (some z, size, bytes))
 (hzs : z.cells.size = size) (hsz : 0 < size)
 (v : Value) (n : Nat) (xs : List Value) (hs : a.eval s = v) (hown : w.ownsRow base e size v n xs)
 (v2 : Value) (m : Nat) (news : List Value) (hx : a.eval x = v2) (hsrc : qw w size v2 m news)
 (h63 : n + m <= maxLen) (hbytes : (n + m) * bytes <= 140737488355328) (hbase : base <= w.heap.size)
 (h : ∀ v' w', Hid (w'.ownsRow base e size v' (n + m) (xs ++ news)) -> Below B w0 w' -> Below base w w' -> wpList P ops Q rest (a.put o.dst v') w') : wpList P ops Q (o :: rest) a w := by
 obtain ⟨i0, hi0, hz0, hz1, hz2⟩ := JL hi;have Cf : ∀ k, v.ownBlock = some k -> base <= k := λ k e => by
  exact Pj
 rcases hsrc with ⟨rfl, rfl, rfl⟩ | ⟨ad, c, rfl, g1, g2, g3⟩
 ·refine wpList_append_own_none hgd s x t ho base e i0 size ht hi0 v n xs hs hown hx (h v w ?_ hb G6)
  rw [JA, Ko];exact hown
 ·refine Kn w hgd s x t ho base e i0 z size bytes ht hi0 hz0 hz1 hz2 hzs hsz v n xs hs hown ad m c news hx g1 g2 g3 h63 hbytes hbase ?_
  intro v' w' ho' hg _;exact h v' w' ho' (hb.grown hg GX (λ k e => Hm (Cf k e))) (G6.grown hg hbase Cf)
end
abbrev b_ (w : World) (base : Nat) (v : Value) (l : List UInt8) : Prop := w.ownsRow base bV 1 v l.length (l.map bO)
theorem BytesAt.src (x : BytesAt w.heap G v l) : qw w 1 v l.length (l.map bO) := by
 rcases x with ⟨rfl, rfl⟩ | ⟨b, o, cap, c, t, fr, rfl, h2, h3, g2, g3, g4⟩
 ·exact IB ⟨rfl, rfl, rfl⟩
 ·refine IC ⟨⟨b, o, none⟩, cap, rfl, GZ, λ j u hj => ?_, λ u hu => ?_⟩
  ·obtain ⟨x, hx, rfl⟩ : ∃ x, l[j]? = some x /\ bO x = u := by simpa using hj
   rw [addr_add, IM _ _ _ _ _ _ g3];exact g4 j x hx
  ·exact QA
theorem BH (w : World) : b_ (w.alloc (.cells #[] bV)) w.heap.size (.slice (some w.heap.size) 0 0) [] :=
 ⟨rfl, IC ⟨w.heap.size, 0, #[], rfl, Nat.le_refl _, II _ _, Nat.le_refl _, IY _, rfl, rfl⟩⟩
theorem b_.bytes {base : Nat} (h : b_ w base v l) : FreshBytes w.heap base v l := y0x h rfl
theorem dP {ops : Array Oper} {rest : List Oper} {o : Oper} {a : Act} {Q : Exit -> Act -> World -> Prop} (hgd : o.guard = none) (s x : Operand)
 (ho : o.op = .call { callee := .builtin .append, args := #[s, x], argTypes := #[dH, dH] })
 (B base : Nat) (w0 : World) (hb : Below B w0 w) (hB : B <= base) (v : Value) (l1 : List UInt8) (hs : a.eval s = v) (hown : b_ w base v l1)
 (v2 : Value) (l2 : List UInt8) (G : Nat -> Prop) (hx : a.eval x = v2) (hsrc : BytesAt w.heap G v2 l2)
 (hl : l1.length + l2.length <= 1099511627776) (hbase : base <= w.heap.size)
 (h : ∀ v' w', Hid (b_ w' base v' (l1 ++ l2)) -> Below B w0 w' -> Below base w w' -> wpList prog ops Q rest (a.put o.dst v') w') : wpList prog ops Q (o :: rest) a w := by
 refine ng hgd s x dH ho B base w0 hb hB bV (.int .u8 0) 1 1 Ih infoByte rfl GY v l1.length (l1.map bO) hs hown v2 l2.length (l2.map bO) hx hsrc.src Ns GX hbase ?_;intro v' w' ho' h1 h2;refine h v' w' ?_ h1 h2;have := ho'.out;unfold b_;rw [IQ, Ki];exact this
section
variable {P : Program}
theorem y7h (w : World) (base : Nat) (t ty e : TypeId) (i : TypeInfo) (z : Value) (size bytes : Nat) (ht : P.underlying t = some (.slice e)) (hi : P.info? e = some i) (hz : i.zero = some z)
 (hsize : i.size = size) (hby : i.bytes = bytes) (hzs : z.cells.size = size) (hsz : 0 < size)
 (v : Value) (n : Nat) (xs : List Value) (hown : w.ownsRow base e size v n xs)
 (a : Addr) (m c : Nat) (news : List Value) (hl : news.length = m * size) (hnews : ∀ j u, news[j]? = some u -> w.cell? (a.add j) = some u) (h1 : ∀ u ∈ news, u.oneCell' = true)
 (h63 : n + m <= maxLen) (hbytes : (n + m) * bytes <= 140737488355328) (hbase : base <= w.heap.size) :
 ∃ v' w', (Builtin.append_ #[t, t] ty #[v, .slice (some a) m c]).run P w = .ok v' w' /\ w'.ownsRow base e size v' (n + m) (xs ++ news) /\ w.grownBy w' v.ownBlock ∧
  ∀ k, v'.ownBlock = some k -> v.ownBlock = some k \/ w.heap.size <= k := by
 obtain ⟨v', w', hr, h2, h3, h4⟩ := run_append_own (P := P) w base t ty e i z size bytes ht hi hz hsize hby hzs hsz v n xs hown a m c news hl hnews h1 h63 hbytes hbase;refine ⟨v', w', hr, h2, h3, λ k hk => ?_⟩;rcases hown.2 with ⟨rfl, rfl⟩ | ⟨g, cap, cur, rfl, hbg, hg, hnc, hcm, hcs, htake⟩
 ·obtain ⟨v2, w2, hr2, g2, _, _⟩ := run_append_own (P := P) w w.heap.size t ty e i z size bytes ht hi hz hsize hby hzs hsz (.slice none 0 0) 0 xs ⟨hown.1, IB ⟨rfl, rfl⟩⟩ a m c news hl hnews h1 h63 hbytes G7
  exact QH
 ·subst hsize
  subst hby;by_cases hroom : n + m <= cap
  ·have hfit : n * i.size + news.length <= cur.size := by rw [hl, hcs, <-Nat.add_mul]; exact KE _ hroom
   have hr2 := run_append_room (P := P) w t ty e i ht hi g n cap cur hg a m c news hl hnews h1 hroom hfit;rw [hr] at hr2;cases hr2;exact IB hk
  ·have holds : ∀ j u, xs[j]? = some u -> w.cell? ((⟨g, 0, none⟩ : Addr).add j) = some u := hown.cells (g := g) rfl
   have hr2 := run_append_grow (P := P) w t ty e i z ht hi hz ⟨g, 0, none⟩ n cap xs hown.1 holds a m c news hl hnews GX (by unfold maxLen at h63; omega) (growslice_fits GX hbytes);exact Rk
theorem Eg {ops : Array Oper} {rest : List Oper} {o : Oper} {a : Act} {Q : Exit -> Act -> World -> Prop} (hgd : o.guard = none) (s x : Operand) (t : TypeId)
 (ho : o.op = .call { callee := .builtin .append, args := #[s, x], argTypes := #[t, t] })
 (base : Nat) (e : TypeId) (z : Value) (size bytes : Nat) (ht : P.underlying t = some (.slice e)) (hi : (P.info? e).map (λ i => (i.zero, i.size, i.bytes)) = some (some z, size, bytes))
 (hzs : z.cells.size = size) (hsz : 0 < size)
 (v : Value) (n : Nat) (xs : List Value) (hs : a.eval s = v) (hown : w.ownsRow base e size v n xs)
 (ad : Addr) (m c : Nat) (news : List Value) (hx : a.eval x = .slice (some ad) m c) (hl : news.length = m * size) (hnews : ∀ j u, news[j]? = some u -> w.cell? (ad.add j) = some u) (h1 : ∀ u ∈ news, u.oneCell' = true)
 (h63 : n + m <= maxLen) (hbytes : (n + m) * bytes <= 140737488355328) (hbase : base <= w.heap.size)
 (h : ∀ v' w', Hid (w'.ownsRow base e size v' (n + m) (xs ++ news)) -> Hid (w.grownBy w' v.ownBlock) -> Hid (∀ k, v'.ownBlock = some k -> v.ownBlock = some k \/ w.heap.size <= k) -> wpList P ops Q rest (a.put o.dst v') w') : wpList P ops Q (o :: rest) a w := by
 obtain ⟨i0, hi0, hz0, hz1, hz2⟩ := JL hi;refine IJ hgd λ K hK => ?_;obtain ⟨v', w', hr, h2, h3, h4⟩ := y7h (P := P) w base t o.type e i0 z size bytes ht hi0 hz0 hz1 hz2 hzs hsz v n xs hown ad m c news hl hnews h1 h63 hbytes hbase;unfold Oper.wp execOp;simp only [ho, resolve, invoke, builtin, JI, JY, JJ, Js, Jo, Jr, hs, hx, hr];exact hK _ _ (h v' w' h2 h3 h4)
end
end Go.Proofs.YtgffifleflkjoaaGreat
