/-
  Parts of a proof.
-/
import Derived.Test.YtgffifleflkjoaaGreatFin48
import Derived.Test.YtgffifleflkjoaaGreatFin12
import Derived.Lib.AppendZeros
import Derived.Lib.AppendStr
import Derived.Maps.Range
set_option linter.unusedSimpArgs false
set_option linter.unusedVariables false
set_option maxRecDepth 100000
set_option maxHeartbeats 16000000
namespace Go.Proofs.YtgffifleflkjoaaGreat
open _root_.Go.Proofs.Tryz
variable {w W w' w0 wr w1 W0 W1 W2 A B : World} {F G F' O : Nat → Prop} {v : Value} {l : List UInt8} {n q m pd md pl g p : Nat} {C : Array Value} {c : Int}
open Go.RowKit
theorem z2r (n : Nat) : (Builtin.zeroCells #[Value.int .u8 0] n).size = n := by simp [Builtin.zeroCells]
theorem x4f (n : Nat) (w : World) (hn : n <= 1099511627776) : Calls prog 215 #[(), .int .i64 n] w (gP w []) := by
 have h0 : (0 : Int) <= (n : Int) := GX;have h00 : ¬ (n : Int) < 0 := GX;have h1 : (n : Int) <= 1099511627776 := GX;rcases Md n with rfl | hpos
 ·go_in
  go_wp2;go_ret;exact ⟨_, rfl, mG _ _, Below.refl _ _⟩
 ·have hp : (0 : Int) < (n : Int) := GX
  obtain ⟨i0, hi0, hz0, hz1, hz2⟩ := JL infoByte;have HR := hd1 (Lib.run_append_nil_zeros (P := prog) w dH 3 dH bV i0 (.int .u8 0) .i64 .i64 Ih Ik hi0 hz0 n hpos (by rw [hz1]; decide) GX (by rw [hz2]; omega));go_in;go_wp2_with (at_builtin; refine Lib.wpList_append_run _ rfl (.tmp 20) (.tmp 21) _ _ rfl _ _ rfl rfl _ _ HR.out ?_)
  go_ret;refine ⟨_, rfl, World.ownsRow_made w _ (grownCap w n 0 bV) G7 (grownCap_le_maxLen w n 0 bV Ns) ?_, (bla).drew⟩;have hg := grownCap_ge w n 0 bV;rw [Array.size_append, z2r, z2r];omega
theorem og.cell {b : Nat} (h : w.cell? b = some v /\ BytesAt w.heap F v l) (hb : Below w w w') : w'.cell? b = some v /\ BytesAt w'.heap F v l :=
 ⟨(hb.cell (p := ⟨b, 0, none⟩) (IZ h.1)).trans h.1, h.2.below hb⟩
theorem x7j {pv : Value} (h : og w F pv l) (hl : l.length <= 1099511627776) : Calls prog 205 #[pv] w (gP w l) := by
 obtain ⟨b, v, rfl, hc, hv⟩ := h;obtain ⟨va, vc, rfl⟩ := hv.slice;have H := hd2 hc hv;clear hv;generalize hn : l.length = n at *;have HN := hd1 hn;clear hn;have n0 : (0 : Int) <= (n : Int) := GX;have n1 : (n : Int) <= 1099511627776 := GX;have n2 : ¬ (n : Int) < 0 := GX;go_in;go_wp2;go_loop [3, 5, 11] (λ z _ s => ∃ k : Nat, k <= 1 /\ s = .int .i64 (k : Int) /\ z = .int .i64 (if k = 0 then 0 else (n : Int))) (λ _ _ s => 1 - (intOf s).toNat)
 case atStart => exact ⟨0, GX, rfl, rfl⟩
 case round =>
  obtain ⟨k, hk, rfl, rfl⟩ := hrel;obtain rfl | rfl : k = 0 \/ k = 1 := GX
  ·rw [IE rfl]
   go_wp2;go_round
   case rel => exact ⟨1, GX, by go_num, by rw [IA GY]⟩
   case measure => simp [intOf]
  ·rw [IA GY]
   clear hc;go_wp2_with (go_at_call 215; refine (x4f n w hl).mono ?_; rintro e w1 ⟨gv, rfl, ho1, hb1⟩)
   have H1 := hd2 ho1 hb1;clear ho1 hb1;go_loopw [6, 8, 27] (λ x _ s wr => ∃ k : Nat, k <= 1 /\ s = .int .i64 (k : Int) /\ b_ wr w.heap.size x (if k = 0 then [] else l) /\ Below w w wr) (λ _ _ s _ => 1 - (intOf s).toNat)
   case atStart => exact ⟨0, GX, rfl, H1.1, H1.2⟩
   case round =>
    obtain ⟨k, hk, rfl, hown, hb⟩ := hrel;obtain rfl | rfl : k = 0 \/ k = 1 := GX
    ·rw [IE rfl] at hown
     obtain ⟨c1, c2⟩ := og.cell H.out hb;have HO := hd3 hown hb c2;clear hown hb c2;go_wp2_with (at_builtin; (refine dP rfl (.tmp 31) (.tmp 32) rfl w.heap.size w.heap.size w HO.2.1 G7 _ [] rfl HO.1 _ l F rfl HO.2.2 (by rw [HN.out]; simpa using hl) HO.2.1.size ?_); intro v' w2 ho hb1 hb2)
     have H2 := hd2 ho.out hb1;clear ho hb1 hb2;go_wp2;go_roundw;case rel => exact ⟨1, GX, by go_num, by simpa using H2.1, H2.2⟩
     case measure => simp [intOf]
    ·rw [IA GY] at hown
     have HO := hd2 hown hb;clear hown hb;exact Qb
theorem b_.at {base : Nat} (h : b_ w base v l) : BytesAt w.heap (λ k => base <= k) v l := h.bytes.bytes
theorem x7x {pv : Value} (h : og w F pv l) (hl : l.length <= 1000000000) : Calls prog 180 #[pv] w (gP w (Cm.dm l)) := by
 have H := hd1 h;have CC := hd1 (x7j h GX);have hs : Cm.sum l < 4294967296 := by unfold Cm.sum Cm.top; omega
 clear h;go_in
 go_wp2_with (first
  | (go_at_call 205; refine CC.mono ?_; rintro e w1 ⟨v1, rfl, o1, b1⟩
     have SC := hd1 (y1z (H.below b1) GX);have H1 := hd2 o1 b1;clear o1 b1)
  | (go_at_call 172; refine SC.mono ?_; rintro e w2 ⟨rfl, b2⟩
     have H2 := hd2 (bi H1.1 b2 G7) (H1.2.trans (b2.mono H1.2.size));clear b2)
  | (go_at_call 171; refine (y1y _ _ hs).mono ?_; rintro e w3 ⟨v3, rfl, o3, b3⟩
     have H3 := hd3 (bi H2.1 b3 G7) o3 (H2.2.trans (b3.mono H2.2.size));clear o3 b3)
  | (at_builtin; refine dP rfl (.tmp 4) (.tmp 7) rfl w.heap.size w.heap.size w H3.2.2 G7 _ l rfl H3.1 _ (Cm.low (Cm.sum l) 4) _ rfl H3.2.1.at (by rw [Cm.oJ]; omega) H3.2.2.size ?_; intro v' w4 ho hb1 hb2))
 go_ret;exact ⟨_, rfl, ho.out, hb1⟩
theorem x5b {u : Value} {k : List UInt8} (h1 : BytesAt w.heap F u l) (h2 : BytesAt w.heap G v k) (hl : l.length <= 1000000000) (hk : k.length <= 1000000000) :
 Calls prog 170 #[u, v] w λ e w' => e = .returned (.bool (decide (l = k))) /\ Below w w w' := by
 obtain ⟨ua, uc, rfl⟩ := h1.slice;obtain ⟨va, vc, rfl⟩ := h2.slice;have H := hd2 h1 h2;clear h1 h2;by_cases hne : l.length = k.length
 ·generalize hn : l.length = n at *
  rw [<-hne];have HN := hd2 hn hne.symm;clear hn hne;go_in;go_wp2;go_loopw [5, 13] (λ _ s wr => ∃ i : Nat, i <= n /\ s = .int .i64 (i : Int) /\ (∀ j, j < i -> l[j]? = k[j]?) /\ Below w w wr) (λ _ s _ => n - (intOf s).toNat)
  case atStart => exact ⟨0, GX, rfl, λ j hj => absurd hj GX, Below.refl _ _⟩
  case round =>
   obtain ⟨i, hi, rfl, hall, hb⟩ := hrel;by_cases hlt : i < n
   ·have i0 : (0 : Int) <= (i : Int) := GX
    have i1 : (i : Int) < (n : Int) := GX;obtain ⟨x, hx⟩ : ∃ x, l[i]? = some x := ⟨_, IX (by rw [HN.1]; exact hlt)⟩;obtain ⟨y, hy⟩ : ∃ y, k[i]? = some y := ⟨_, IX (by rw [HN.2]; exact hlt)⟩;obtain ⟨b, o, rfl, _, hbl, hc⟩ := H.1.byte hx;obtain ⟨b', o', rfl, _, x4l, hc'⟩ := H.2.byte hy;have c1 : ∀ m, (wr.drewN m).cell? (b, o + i) = some (.int .u8 x.toNat) := λ m => ((below_drewN hb m).cell (p := ⟨b, o + i, none⟩) hbl).trans hc;have c2 : ∀ m, (wr.drewN m).cell? (b', o' + i) = some (.int .u8 y.toNat) := λ m => ((below_drewN hb m).cell (p := ⟨b', o' + i, none⟩) x4l).trans hc';have HA := hd4 hall hb hx hy;clear hall hb hx hy hc hc';go_upto_region 6 with fail
    by_cases hxy : x = y
    ·have HX := hd1 hxy
     have e1 : ((x.toNat : Int) != (y.toNat : Int)) = false := by rw [hxy]; simp
     clear hxy;go_quiet (fail)
     go_wp2;go_roundw;case rel => exact ⟨i + 1, GX, by go_num, λ j hj => by
      by_cases hji : j < i
      ·exact HA.1 j hji
      ·obtain rfl : j = i := GX
       rw [HA.2.2.1, HA.2.2.2, HX.out], below_drewN HA.2.1 _⟩
     case measure => simp [intOf]; omega
    ·have HX := hd1 hxy
     have e1 : ((x.toNat : Int) != (y.toNat : Int)) = true := by
      rw [Lb];exact λ q => hxy (Kc.1 GX)
     clear hxy;go_quiet (fail)
     go_wp2;go_ret;refine ⟨?_, below_drewN HA.2.1 _⟩
     have : ¬ l = k := λ q => HX.out (by
      have e := HA.2.2.1;rw [q, HA.2.2.2] at e;exact (IR e).symm)
     rw [J7 this];rfl
   ·obtain rfl : i = n := GX
    have HA := hd2 hall hb;clear hall hb;go_wp2;go_ret;refine ⟨?_, HA.2⟩;have : l = k := List.ext_getElem? λ j => by
     by_cases hj : j < i
     ·exact HA.1 j hj
     ·rw [List.getElem?_eq_none (by rw [HN.1]; omega), List.getElem?_eq_none (by rw [HN.2]; omega)]
    rw [KD this];rfl
 ·have e1 : ((l.length : Int) != (k.length : Int)) = true := by rw [Lb]; omega
  have HE := hd1 hne;clear hne;go_in;go_wp2;go_ret;refine ⟨?_, Below.refl _ _⟩;rw [J7 (λ q => HE.out (by rw [q]))];rfl
structure cz (w w' : World) (v v' : Value) : Prop where
 grown : w.grownBy w' v.ownBlock
 lies : ∀ k, v'.ownBlock = some k -> v.ownBlock = some k \/ w.heap.size <= k
theorem cz.refl (w : World) (v : Value) : cz w w v v := ⟨World.grownBy.refl _ _, λ _ h => IB h⟩
theorem cz.trans {C : World} {v' v'' : Value} (h : cz A B v v') (k : cz B C v' v'') : cz A C v v'' :=
 ⟨h.grown.andThen k.grown (λ j e => (h.lies j e).symm), λ j e => by
  rcases k.lies j e with q | q
  ·exact h.lies j q
  ·exact IC (IV h.grown.size q)⟩
theorem cz.alloc {v' : Value} (h : cz A B v v') (o : Obj) : cz A (B.alloc o) v v' :=
 ⟨World.grownBy.trans h.grown (World.grownBy_alloc _ _ _), h.lies⟩
theorem cz.below {v' : Value} {base : Nat} (h : cz w w' v v') (hown : b_ w base v l) (hb : base <= w.heap.size) : Below base w w' :=
 G6.grown h.grown hb (λ k e => by
  rcases hown.2 with ⟨h, _⟩ | ⟨g, cap, cur, h, hg, _⟩
  ·rw [h] at e; cases e
  ·rw [h] at e; cases e; exact hg)
theorem cz.kept {v' : Value} (h : cz w w' v v') {k : Nat} {o : Obj} (hk : w.heap[k]? = some o) (hn : v.ownBlock ≠ some k) : w'.heap[k]? = some o :=
 (h.grown.block k (Jk.1 hk).1 (λ e => hn e.symm)).trans hk
section
variable {ops : Array Oper} {rest : List Oper} {o : Oper} {a : Act} {w : World} {Q : Exit -> Act -> World -> Prop}
theorem gQ (hgd : o.guard = none) (s x : Operand) (ho : o.op = .call { callee := .builtin .append, args := #[s, x], argTypes := #[dH, dH] })
 (base : Nat) (v : Value) (l1 : List UInt8) (hs : a.eval s = v) (hown : b_ w base v l1) (v2 : Value) (l2 : List UInt8) (G : Nat -> Prop) (hx : a.eval x = v2) (hsrc : BytesAt w.heap G v2 l2)
 (hl : l1.length + l2.length <= 1099511627776) (hbase : base <= w.heap.size)
 (h : ∀ v' w', Hid (b_ w' base v' (l1 ++ l2)) -> Hid (cz w w' v v') -> wpList prog ops Q rest (a.put o.dst v') w') : wpList prog ops Q (o :: rest) a w := by
 have i0 := infoByte;obtain ⟨i1, hi0, hz0, hz1, hz2⟩ := JL i0;rcases hsrc.src with ⟨rfl, hm, hn⟩ | ⟨ad, c, rfl, g1, g2, g3⟩
 ·have e2 : l2 = [] := JZ hm
  subst e2;refine wpList_append_own_none hgd s x dH ho base bV i1 1 Ih hi0 v l1.length (l1.map bO) hs hown hx (h v w ?_ (hd1 (cz.refl w v)));rw [JA];exact hd1 hown
 ·refine Eg hgd s x dH ho base bV (.int .u8 0) 1 1 Ih i0 rfl GY v l1.length (l1.map bO) hs hown ad l2.length c (l2.map bO) hx g1 g2 g3 Ns GX hbase ?_
  intro v' w' h1 h2 h3;refine h v' w' ?_ (hd1 ⟨h2.out, h3.out⟩);have := h1.out;rw [<-Ki] at this;refine hd1 ?_;show w'.ownsRow base bV 1 v' (l1 ++ l2).length ((l1 ++ l2).map bO);rw [IQ];exact this
theorem append_grow_e (base : Nat) (l2 l1 : List UInt8) {v v2 : Value} (hown : b_ w base v l1) (hsrc : BytesAt w.heap (λ _ => True) v2 l2) (hl : l1.length + l2.length <= 1099511627776) (hbase : base <= w.heap.size)
 (h : ∀ v' w', Hid (b_ w' base v' (l1 ++ l2)) -> Hid (cz w w' v v') -> wpList prog ops Q rest (a.put o.dst v') w') (e : o.guard = none /\ ∃ s x, o.op = .call { callee := .builtin .append, args := #[s, x], argTypes := #[dH, dH] } /\ a.eval s = v /\ a.eval x = v2 := by exact ⟨rfl, _, _, rfl, rfl, rfl⟩) : wpList prog ops Q (o :: rest) a w := by
 obtain ⟨h1, s, x, h2, h3, h4⟩ := e;exact gQ h1 s x h2 base v l1 h3 hown v2 l2 (λ _ => True) h4 hsrc hl hbase h
theorem y7i (w : World) (base : Nat) (t u ty e : TypeId) (i : TypeInfo) (ht : prog.underlying t = some (.slice e)) (hu : prog.underlying u = some .string) (hi : prog.info? e = some i) (hz : i.zero = some (.int .u8 0))
 (hsize : i.size = 1) (hby : i.bytes = 1) (v : Value) (n : Nat) (xs : List Value) (hown : w.ownsRow base e 1 v n xs) (s : ByteArray) (h63 : n + s.size <= maxLen) (hbytes : n + s.size <= 140737488355328) (hbase : base <= w.heap.size) :
 ∃ v' w', (Builtin.append_ #[t, u] ty #[v, .string s]).run prog w = .ok v' w' /\ w'.ownsRow base e 1 v' (n + s.size) (xs ++ Lib.strCells s) /\ w.grownBy w' v.ownBlock /\ ∀ k, v'.ownBlock = some k -> v.ownBlock = some k \/ w.heap.size <= k := by
 obtain ⟨v', w', hr, h2, h3, h4⟩ := Lib.run_append_own_string (P := prog) w base t u ty e i ht hu hi hz hsize hby v n xs hown s h63 hbytes hbase;refine ⟨v', w', hr, h2, h3, λ k hk => ?_⟩;rcases hown.2 with ⟨rfl, rfl⟩ | ⟨g, cap, cur, rfl, hbg, hg, hnc, hcm, hcs, htake⟩
 ·obtain ⟨v2, w2, hr2, g2, _, _⟩ := Lib.run_append_own_string (P := prog) w w.heap.size t u ty e i ht hu hi hz hsize hby (.slice none 0 0) 0 xs ⟨hown.1, IB ⟨rfl, rfl⟩⟩ s h63 hbytes G7
  exact QH
 ·by_cases hroom : n + s.size <= cap
  ·have hr2 := Lib.run_append_room_string (P := prog) w t u ty e i ht hu hi hsize g n cap cur hg s hroom (by rw [hcs]; omega)
   rw [hr] at hr2;cases hr2;exact IB hk
  ·have holds : ∀ j u, xs[j]? = some u -> w.cell? ((⟨g, 0, none⟩ : Addr).add j) = some u := hown.cells (g := g) rfl
   have hr2 := Lib.run_append_grow_string (P := prog) w t u ty e i (.int .u8 0) ht hu hi hz ⟨g, 0, none⟩ n cap xs (by rw [hsize]; exact hown.1) holds s GX (by unfold maxLen at h63; omega) (by rw [hby]; exact growslice_fits GX GX);exact Rk
theorem wpList_append_text (hgd : o.guard = none) (s x : Operand) (ho : o.op = .call { callee := .builtin .append, args := #[s, x], argTypes := #[dH, 9] })
 (base : Nat) (v : Value) (l1 : List UInt8) (hs : a.eval s = v) (hown : b_ w base v l1) (l2 : List UInt8) (hx : a.eval x = .string ⟨l2.toArray⟩)
 (hl : l1.length + l2.length <= 1099511627776) (hbase : base <= w.heap.size)
 (h : ∀ v' w', Hid (b_ w' base v' (l1 ++ l2)) -> Hid (cz w w' v v') -> wpList prog ops Q rest (a.put o.dst v') w') : wpList prog ops Q (o :: rest) a w := by
 have i0 := infoByte;obtain ⟨i1, hi0, hz0, hz1, hz2⟩ := JL i0;refine IJ hgd λ K hK => ?_;have hsz : (⟨l2.toArray⟩ : ByteArray).size = l2.length := by simp [ByteArray.size]
 obtain ⟨v', w', hr, h2, h3, h4⟩ := y7i w base dH 9 o.type bV i1 Ih Ie hi0 hz0 hz1 hz2 v l1.length (l1.map bO) hown ⟨l2.toArray⟩ (by rw [hsz]; unfold maxLen; omega) (by rw [hsz]; omega) hbase;unfold Oper.wp execOp;simp only [ho, resolve, invoke, builtin, JI, JY, JJ, Js, Jo, Jr, hs, hx, hr];refine hK _ _ (h v' w' ?_ (hd1 ⟨h3, h4⟩));refine hd1 ?_;rw [hsz] at h2;show w'.ownsRow base bV 1 v' (l1 ++ l2).length ((l1 ++ l2).map bO);rw [IQ, Ki];have e : Lib.strCells ⟨l2.toArray⟩ = l2.map bO := by simp [Lib.strCells, bO]
 rw [<-e];exact h2
end
end Go.Proofs.YtgffifleflkjoaaGreat
