/-
  Parts of a proof.
-/
import Derived.Test.YtgffifleflkjoaaGreatFin13
set_option linter.unusedSimpArgs false
set_option linter.unusedVariables false
set_option maxRecDepth 100000
set_option maxHeartbeats 16000000
namespace Go.Proofs.YtgffifleflkjoaaGreat
open _root_.Go.Proofs.Tryz
variable {w W w' w0 wr w1 W0 W1 W2 A B : World} {F G F' O : Nat → Prop} {v : Value} {l : List UInt8} {n q m pd md pl g p : Nat} {C : Array Value} {c : Int}
open Go.RowKit Dm
theorem x7n {d : D} (x : aQ w.heap p m d F) (c : bH) {kv : Value} (hk : nT w.heap kv c.keep) (ht0 : -9223372036854775808 <= c.bq) (ht1 : c.bq <= 9223372036854775807) (hp0 : -9223372036854775808 <= c.part) (hp1 : c.part <= 9223372036854775807) (hn : d.waits.length <= 1000000000000) :
 Calls prog 19 #[.pointer (some p), .agg #[kv, .int .i64 c.bq, .int .i64 c.part]] w (y3w w F (d.aT c)) := by
 have hb0 : Below w w (w.alloc (.cells #[kv, .int .i64 c.bq, .int .i64 c.part] jh)) := bla;have X := hd1 x;have HK := hd1 hk;have hl := x.lt;have k16 := (hb0.cell (p := ⟨p, 16, none⟩) hl.1).trans x.lu.1;have hi : (prog.info? fu).map (·.size) = some 5 := GQ;have HI := hd1 hi;clear hi;have ok := x.ok;obtain ⟨_, t0, t1, t2, t3, ml, l0, l1, l2, l3, wv, stops, after, c1, c2, c3, c4, c5, c6, c7, c8, c9, b0, b1, b2, b3, b4, b5, b6, b7, st⟩ := x;obtain ⟨es2, clock2, q3, q4⟩ := c5;have c1' := (hb0.block p hl.1).trans c1;have CP := hd1 (wI p 5 ml (Iz rfl) l0 l1 l2 l3 es2 clock2 _ (ae c1' rfl) (ae c1' rfl) (ae c1' rfl) (ae c1' rfl) (ae c1' rfl) ((hb0.block _ (aa q3)).trans q3) (by simp [b4.one, b5.one, b6.one, b7.one]));have ALL := hd8 c1 q3 q4 b4 b5 b6 b7 st;have OK := hd1 ok;clear c1 c2 c3 c4 c6 c7 c8 c9 b0 b1 b2 b3 b4 b5 b6 b7 q3 q4 c1' hk ok;go_in
 go_upto_region 5 with (first
  | (go_at_call 45; refine (gY p true _ k16).mono ?_; rintro e w' ⟨rfl, rfl⟩)
  | (go_at_call 31; refine CP.mono ?_; rintro e W1 ⟨rfl, hb1, r1⟩)
  | (refine aC rfl fu _ _ rfl W1.heap.size #[.map (some (w.heap.size + 1 + 1)), l0, l1, l2, l3] rfl rfl fu o_ (IC W1 _) HI.out GQ (by have := ALL.out; simp [this.2.2.2.1.one, this.2.2.2.2.1.one, this.2.2.2.2.2.1.one, this.2.2.2.2.2.2.1.one]; rfl) ?_
     intro W2 HW HM HS))
 obtain ⟨cs0, z2⟩ := x7s (d := d) (F := F) (ml := ml) ⟨es2, clock2, ALL.2.1, ALL.2.2.1⟩ ALL.2.1 ALL.2.2.2.1 ALL.2.2.2.2.1 ALL.2.2.2.2.2.1 ALL.2.2.2.2.2.2.1 hb1 (by simpa using r1) HW.out HM HS;generalize hq : W1.heap.size = q at *;generalize he0 : W2.heap.size = e0 at *;subst z2;obtain ⟨W3, hW3⟩ := G5 (W2.alloc (.cells #[false, false, false, false] lW));simp only [lW] at hW3 cs0;rw [hW3] at cs0 ⊢;obtain ⟨sa, sc, rfl, hsc, hnil⟩ := st.slice;have k10 : W3.cell? (p, 10) = some (.slice sa d.waits.length sc) := (cs0.below.cell (p := ⟨p, 10, none⟩) hl.1).trans (ae ALL.1 rfl);have nL := hd1 (show oP w d F kv c q (w.heap.size + 1 + 1) (q + 1) 0 W3 from ⟨_, _, cs0, gz.start OK.out, rfl⟩);clear hW3 hq he0 HM HS HW r1 hb1 cs0 k16 hb0 CP HI st;have HN := hd1 hnil;clear hnil;go_wp2;go_loopg [23] d.waits.length (λ g s wr => ∃ k : Nat, s = .int .i64 (k : Int) /\ g + k = d.waits.length /\ oP w d F kv c q (w.heap.size + 1 + 1) (q + 1) k wr)
 case atStart => exact ⟨0, rfl, rfl, nL.out⟩
 case round =>
  obtain ⟨k, rfl, hg, hrel⟩ := hrel;by_cases hlt : k < d.waits.length
  ·obtain ⟨x, en, cs, inv, cZ⟩ := hrel
   obtain ⟨s, hs⟩ : ∃ s, d.waits[k]? = some s := ⟨_, IR hlt⟩;have o8 : jX wr.heap (iH F w q (w.heap.size + 1 + 1) (q + 1)) (.slice sa d.waits.length sc) d.waits := ALL.2.2.2.2.2.2.2.keeps (λ k _ hl => cs.below.block k hl) (λ k h hl => Iy ⟨h, hl⟩);obtain ⟨b, o, c', tt, fr, rfl, hrow, hst⟩ : ∃ b o c' tt fr, sa = some ⟨b, o, none⟩ /\ wr.heap[b]? = some (.cells c' tt fr) /\ ∃ a0 a1 a2 a3 a4 a5 a6, wr.rangeAt b (o + k * 7) (ib a0 a1 a2 a3 a4 a5 a6) /\ il wr.heap (iH F w q (w.heap.size + 1 + 1) (q + 1)) s a0 a1 a2 a3 a4 a5 a6 := by
    rcases o8 with ⟨h1, h2⟩ | ⟨b, o, cap, c', tt, fr, h1, h2, h3, g2, g3, g4⟩
    ·rw [h2] at hlt; simp at hlt
    ·obtain ⟨a0, a1, a2, a3, a4, a5, a6, e0, e1, e2, e3, e4, e5, e6, e7⟩ := g4 k s hs
     refine ⟨b, o, c', tt, fr, by simpa using (Jw h1).1, g3, a0, a1, a2, a3, a4, a5, a6, ?_, e7⟩;intro j v hj;rw [IJ _ _ _ _ _ _ g3];match j, hj with
     | 0, hj => cases hj; exact e0
     | 1, hj => cases hj; exact e1
     | 2, hj => cases hj; exact e2
     | 3, hj => cases hj; exact e3
     | 4, hj => cases hj; exact e4
     | 5, hj => cases hj; exact e5
     | 6, hj => cases hj; exact e6
     | n + 7, hj => cases hj
   obtain ⟨a0, a1, a2, a3, a4, a5, a6, qM, hst⟩ := hst;have ST := hd3 qM hst hst.ones;have CS := hd6 cs inv cZ hs hg o8;clear qM hst cs inv cZ hs hrow o8 hg
   go_upto_region 8 with (first
    | (refine JA rfl dY (.tmp 26) rfl b (o + k * 7) rfl (ib a0 a1 a2 a3 a4 a5 a6) _ ST.1 underlying115 rfl (by rw [z0x]; rfl) ?_)
    | (refine aC rfl dY _ _ rfl wr.heap.size (ib a0 a1 a2 a3 a4 a5 a6).toArray rfl rfl dY _ (IC wr _) (by rw [z0x]; rfl) (by rfl) (all_oneCell_toArray ST.2.2) ?_
       intro W5 aF aB bf))
   have hb5 : Below wr wr W5 := Moves.new (bla) aB GZ;have C_ := CS.1.next hb5;have ET : il W5.heap (iH F w q (w.heap.size + 1 + 1) (q + 1)) s a0 a1 a2 a3 a4 a5 a6 := ST.2.1.keeps (λ k _ hl => hb5.block k hl) (λ _ h _ => h);have C5 := hd4 C_ ET hb5 aF.out;have g2 : a2 = .int .i64 (if s.what = 1 then -1 else s.n) := by
    rcases ET.2.2.2.2 with ⟨g1, g2, _⟩ | ⟨g1, g2, _⟩ | ⟨g1, g2, _⟩
    ·rw [IA g1]; exact g2
    ·rw [Iw GR]; exact g2
    ·rw [Iw GR]; exact g2
   have pq : s.ok d.many := OK.waits s (Jb CS.2.2.2.1);have oJ := hd1 pq;have k2 : W5.cell? ⟨wr.heap.size, 2, none⟩ = some a2 := ae aF.out rfl;rw [g2] at k2;have G2 := hd1 g2;clear aB bf hb5 ET g2;by_cases h1 : s.what = 1
   ·rw [IA h1] at k2
    have H1 := hd1 h1;clear h1 C_ pq;go_upto_region 9 with fail
    go_cut [10] (λ s10 wx => s10 = .bool (c.dz d.waits.length k) /\ ∃ nq, wx = W5.drewN nq)
    case first =>
     exact Ou
    case rest =>
     obtain ⟨rfl, nq, rfl⟩ := hcut;obtain ⟨W6, fG⟩ := G5 (W5.drewN nq);have hb6 : Below W5 W5 W6 := by rw [<-fG]; exact below_drewN GY nq
     have C6 := hd4 (C5.1.next hb6) (C5.2.1.keeps (λ k _ hl => hb6.block k hl) (λ _ h _ => h)) (C5.2.2.1.trans (hb6.mono C5.2.2.1.size)) ((hb6.block _ (aa C5.2.2.2)).trans C5.2.2.2);rw [fG];clear fG hb6 C5 aF k2;obtain ⟨ka, kc, rfl⟩ := HK.slice;have kk : W6.cell? w.heap.size = some (.slice ka c.keep.length kc) := ae C6.1.box rfl;go_upto_region 10 with fail
     go_cut [11] (λ s11 wx => s11 = .bool (c.kept k) /\ ∃ nq, wx = W6.drewN nq)
     case first =>
      exact Oo
     case rest =>
      obtain ⟨rfl, nq, rfl⟩ := hcut;obtain ⟨W7, gI⟩ := G5 (W6.drewN nq);have ik : Below W6 W6 W7 := by rw [<-gI]; exact below_drewN GY nq
      have C7 := hd4 (C6.1.next ik) (C6.2.1.keeps (λ k _ hl => ik.block k hl) (λ _ h _ => h)) (C6.2.2.1.trans (ik.mono C6.2.2.1.size)) ((ik.block _ (aa C6.2.2.2)).trans C6.2.2.2);rw [gI];clear gI ik C6 kk;have fE := OK.fE;have hx : ∀ t, (x.tp t).length <= 1048576 := λ t => Hf (CS.2.1.room OK.out t);obtain ⟨fn, lb, zk, eg, hdo⟩ := z1p s d.many oJ.out q _ x _ fu [] W7 a0 a1 a2 a3 a4 a5 a6 C7.2.1 hx C7.1.stand;obtain ⟨fn2, lb2, zi, CW, yL⟩ := z7j s d.many oJ.out q _ x _ fu [] W7 a0 a1 a2 a3 a4 a5 a6 c.part hp0 hp1 C7.2.1 hx CS.2.1.sec C7.1.stand;have lQ := hd1 hdo;have lN := hd1 yL;have k20 : W7.cell? ⟨wr.heap.size, 0, none⟩ = some a0 := ae C7.2.2.2 rfl;have k21 : W7.cell? ⟨wr.heap.size, 1, none⟩ = some a1 := ae C7.2.2.2 rfl;have k22 : W7.cell? ⟨wr.heap.size, 2, none⟩ = some a2 := ae C7.2.2.2 rfl;have kp : W7.cell? (w.heap.size, 2) = some (.int .i64 c.part) := ae C7.1.box rfl;have stay : ∀ (x' : St) (W8 : World) (e : Ending), uR W7 q (w.heap.size + 1 + 1) x' (iH F w q (w.heap.size + 1 + 1) (q + 1)) fu [] e W8 -> W8.cell? ⟨wr.heap.size, 2, none⟩ = some a2 := λ _ _ _ hd => by
       exact Pk
      have STAY := hd1 stay;have tv : a2 = .int .i64 (-1) := by rw [G2.out, IA H1.out]
      rw [zk] at k20;rw [zi] at k21;rw [tv] at k22;clear stay hdo yL zk zi hx;cases hT : c.dz d.waits.length k
      ·cases hK : c.kept k
       ·have HT := hd2 hT hK
        clear hT hK;go_wp2;go_roundg (d.waits.length - (k + 1))
        case measure => have := CS.2.2.2.2.1; omega
        case rel => exact ⟨k + 1, by go_num, Hf CS.2.2.2.2.1, oP.next OK.out CS.2.1 CS.2.2.1 CS.2.2.2.1 (λ h => h.1 H1.out) C7.1 Nn (by simp [gq, H1.out])⟩
       ·have HT := hd2 hT hK
        clear hT hK
        go_wp2_with (refine lQ.mono ?_
                     rintro e W8 hd;have er := hd.ret;subst er;have k28 := (STAY.out _ _ _ hd).trans (IG some tv);have jW := C7.1.did hd;have C8 := hd1 jW;clear jW hd)
        go_roundg (d.waits.length - (k + 1))
        case measure => have := CS.2.2.2.2.1; omega
        case rel => exact ⟨k + 1, by go_num, Hf CS.2.2.2.2.1, oP.next OK.out CS.2.1 CS.2.2.1 CS.2.2.2.1 (λ h => h.1 H1.out) C8.out Nn (by simp [gq, H1.out])⟩
      ·have HT := hd1 hT
       clear hT
       go_wp2_with (refine lN.mono ?_
                    rintro e W8 hd;have er := hd.ret;subst er;have k28 := (STAY.out _ _ _ hd).trans (IG some tv);have jW := C7.1.did hd;have C8 := hd1 jW;clear jW hd)
       go_roundg (d.waits.length - (k + 1))
       case measure => have := CS.2.2.2.2.1; omega
       case rel => exact ⟨k + 1, by go_num, Hf CS.2.2.2.2.1, oP.next OK.out CS.2.1 CS.2.2.1 CS.2.2.2.1 (λ h => h.1 H1.out) C8.out Nv (by simp [gq, H1.out])⟩
   ·rw [Iw h1] at k2
    obtain ⟨t, et, ht⟩ : ∃ t : Nat, s.n = t /\ t < 4 := by
     rcases pq with h | h | h
     ·exact absurd h.1 h1
     ·exact Rf
     ·exact Rf
    rw [et] at k2;have k3 := C_.ru t ht;have t0' : (0 : Int) <= t := GR;have t1' : (t : Int) < 4 := GR;have H1 := hd3 h1 et ht;clear h1 C_ pq et;cases hen : en t
    ·rw [hen] at k3
     have HE := hd1 hen;clear hen;go_upto_region 9 with fail
     go_cut [10] (λ s10 wx => s10 = .bool (c.dz d.waits.length k) /\ ∃ nq, wx = W5.drewN nq)
     case first =>
      exact Ou
     case rest =>
      obtain ⟨rfl, nq, rfl⟩ := hcut;obtain ⟨W6, fG⟩ := G5 (W5.drewN nq);have hb6 : Below W5 W5 W6 := by rw [<-fG]; exact below_drewN GY nq
      have C6 := hd4 (C5.1.next hb6) (C5.2.1.keeps (λ k _ hl => hb6.block k hl) (λ _ h _ => h)) (C5.2.2.1.trans (hb6.mono C5.2.2.1.size)) ((hb6.block _ (aa C5.2.2.2)).trans C5.2.2.2);rw [fG];clear fG hb6 C5 aF k2 k3;obtain ⟨ka, kc, rfl⟩ := HK.slice;have kk : W6.cell? w.heap.size = some (.slice ka c.keep.length kc) := ae C6.1.box rfl;go_upto_region 10 with fail
      go_cut [11] (λ s11 wx => s11 = .bool (c.kept k) /\ ∃ nq, wx = W6.drewN nq)
      case first =>
       exact Oo
      case rest =>
       obtain ⟨rfl, nq, rfl⟩ := hcut;obtain ⟨W7, gI⟩ := G5 (W6.drewN nq);have ik : Below W6 W6 W7 := by rw [<-gI]; exact below_drewN GY nq
       have C7 := hd4 (C6.1.next ik) (C6.2.1.keeps (λ k _ hl => ik.block k hl) (λ _ h _ => h)) (C6.2.2.1.trans (ik.mono C6.2.2.1.size)) ((ik.block _ (aa C6.2.2.2)).trans C6.2.2.2);rw [gI];clear gI ik C6 kk;have fE := OK.fE;have hx : ∀ t, (x.tp t).length <= 1048576 := λ t => Hf (CS.2.1.room OK.out t);obtain ⟨fn, lb, zk, eg, hdo⟩ := z1p s d.many oJ.out q _ x _ fu [] W7 a0 a1 a2 a3 a4 a5 a6 C7.2.1 hx C7.1.stand;obtain ⟨fn2, lb2, zi, CW, yL⟩ := z7j s d.many oJ.out q _ x _ fu [] W7 a0 a1 a2 a3 a4 a5 a6 c.part hp0 hp1 C7.2.1 hx CS.2.1.sec C7.1.stand;have lQ := hd1 hdo;have lN := hd1 yL;have k20 : W7.cell? ⟨wr.heap.size, 0, none⟩ = some a0 := ae C7.2.2.2 rfl;have k21 : W7.cell? ⟨wr.heap.size, 1, none⟩ = some a1 := ae C7.2.2.2 rfl;have k22 : W7.cell? ⟨wr.heap.size, 2, none⟩ = some a2 := ae C7.2.2.2 rfl;have kp : W7.cell? (w.heap.size, 2) = some (.int .i64 c.part) := ae C7.1.box rfl;have stay : ∀ (x' : St) (W8 : World) (e : Ending), uR W7 q (w.heap.size + 1 + 1) x' (iH F w q (w.heap.size + 1 + 1) (q + 1)) fu [] e W8 -> W8.cell? ⟨wr.heap.size, 2, none⟩ = some a2 := λ _ _ _ hd => by
        exact Pk
       have STAY := hd1 stay;have tv : a2 = .int .i64 (t : Int) := by rw [G2.out, Iw H1.1, H1.2.1]
       rw [zk] at k20;rw [zi] at k21;rw [tv] at k22;clear stay hdo yL zk zi hx;cases hT : c.dz d.waits.length k
       ·cases hK : c.kept k
        ·have HT := hd2 hT hK
         clear hT hK;have k30 := C7.1.ru t H1.2.2;have f30 := aZ C7.1.ends t;go_wp2;go_roundg (d.waits.length - (k + 1))
         case measure => have := CS.2.2.2.2.1; omega
         case rel => exact ⟨k + 1, by go_num, Hf CS.2.2.2.2.1, oP.next OK.out CS.2.1 CS.2.2.1 CS.2.2.2.1 (λ h => by have := h.2; rw [H1.2.1, HE.out] at this; cases this) (C7.1.wD t H1.2.2 true) Nn (by simp [gq, H1.1, H1.2.1, HT.1, HT.2])⟩
        ·have HT := hd2 hT hK
         clear hT hK
         go_wp2_with (refine lQ.mono ?_
                      rintro e W8 hd;have er := hd.ret;subst er;have k28 := (STAY.out _ _ _ hd).trans (IG some tv);have jW := C7.1.did hd;have k38 := jW.ru t H1.2.2;have f38 := aZ jW.ends t;have C8 := hd1 jW;clear jW hd)
         go_roundg (d.waits.length - (k + 1))
         case measure => have := CS.2.2.2.2.1; omega
         case rel => exact ⟨k + 1, by go_num, Hf CS.2.2.2.2.1, oP.next OK.out CS.2.1 CS.2.2.1 CS.2.2.2.1 (λ h => by have := h.2; rw [H1.2.1, HE.out] at this; cases this) (C8.wD t H1.2.2 false) Nn (by simp [gq, H1.1, H1.2.1, HT.1, HT.2])⟩
       ·have HT := hd1 hT
        clear hT
        go_wp2_with (refine lN.mono ?_
                     rintro e W8 hd;have er := hd.ret;subst er;have k28 := (STAY.out _ _ _ hd).trans (IG some tv);have jW := C7.1.did hd;have k38 := jW.ru t H1.2.2;have f38 := aZ jW.ends t;have C8 := hd1 jW;clear jW hd)
        go_roundg (d.waits.length - (k + 1))
        case measure => have := CS.2.2.2.2.1; omega
        case rel => exact ⟨k + 1, by go_num, Hf CS.2.2.2.2.1, oP.next OK.out CS.2.1 CS.2.2.1 CS.2.2.2.1 (λ h => by have := h.2; rw [H1.2.1, HE.out] at this; cases this) (C8.wD t H1.2.2 true) Nv (by simp [gq, H1.1, H1.2.1, HT.out])⟩
    ·rw [hen] at k3
     have HE := hd1 hen;clear hen;go_wp2;go_roundg (d.waits.length - (k + 1))
     case measure => have := CS.2.2.2.2.1; omega
     case rel =>
      refine ⟨k + 1, by go_num, Hf CS.2.2.2.2.1, x, en, C5.1, CS.2.1.skip CS.2.2.2.1 ⟨H1.1, by rw [H1.2.1]; exact HE.out⟩, ?_⟩;rw [<-CS.2.2.1, La hlt];have := (IY.1 CS.2.2.2.1).2;rw [this, Da _ _ _ _ _ _ _ ⟨H1.1, by rw [H1.2.1]; exact HE.out⟩]
  ·obtain ⟨x, en, cs, inv, cZ⟩ := hrel
   obtain rfl : k = d.waits.length := GR;rw [List.drop_length, eG] at cZ;have hz := cs.below.size;obtain ⟨u0, u1, u2, u3, r1, r2, v0, v1, v2, v3, n1, n2, n3⟩ := cs.stand;have r2' := r2;obtain ⟨es, clock, r3, _⟩ := r2;have kk : ∀ (j : Nat) (v : Value), (#[.map (some (w.heap.size + 1 + 1)), u0, u1, u2, u3] : Array Value)[j]? = some v -> wr.drew.cell? ⟨q, j, none⟩ = some v := λ j v hj => ae (w := wr.drew) r1 hj;have CP := hd1 (wI q 0 (w.heap.size + 1 + 1) (Iy rfl) u0 u1 u2 u3 es clock wr.drew (kk 0 _ rfl) (kk 1 _ rfl) (kk 2 _ rfl) (kk 3 _ rfl) (kk 4 _ rfl) r3 (by simp [v0.one, v1.one, v2.one, v3.one]));have hi : (prog.info? fu).map (·.size) = some 5 := GQ;have ld : ∀ w', (∃ x : Wd (Below wr wr), w' = x.world) -> (Instr.loadAt fu (.pointer (some q))).run prog w' = .ok (.agg #[.map (some (w.heap.size + 1 + 1)), u0, u1, u2, u3]) w' := by
    rintro w' ⟨x, rfl⟩;exact fK ((x.ok.block _ (aa r1)).trans r1) underlying91 rfl hi
   have LD := hd1 ld;have EN := hd10 cs inv cZ r1 r2' r3 v0 v1 v2 v3;have lp : p < wr.heap.size := GR;have x11 : ∀ x : Wd (Below wr wr), x.world.cell? (p, 11) = some (.int .i64 d.many) := λ x => (x.ok.cell (p := ⟨p, 11, none⟩) lp).trans ((cs.below.cell (p := ⟨p, 11, none⟩) hl.1).trans (ae ALL.1 rfl));have x12 : ∀ x : Wd (Below wr wr), x.world.cell? (p, 12) = some (.int .i64 d.room) := λ x => (x.ok.cell (p := ⟨p, 12, none⟩) lp).trans ((cs.below.cell (p := ⟨p, 12, none⟩) hl.1).trans (ae ALL.1 rfl));clear kk hi ld cs inv cZ r1 r2' r3 v0 v1 v2 v3;have ne : Nonempty (Wd (Below wr wr)) := ⟨⟨_, Below.refl _ _⟩⟩;go_wp2;refine bC (λ w' => ∃ x : Wd (Below wr wr), w' = x.world) [] GQ ?_;refine aI [0, 2, 3, 4, 5, 6, 7, 8, 9] 5 _ Hq GQ ?_;simp only [fmc, fmn, gta, gcs, gcz];refine dX rfl fu (.tmp 6) rfl _ LD.out ?_;repeat refine G8 ?_
   refine aA ?_;refine az 1 4 _ _ rfl GQ ?_;refine IE rfl λ K hK => ?_;go_simp;go_at_call 31;refine CP.mono ?_;rintro e W9 ⟨rfl, hb9, r9⟩;have tH : Below wr wr W9 := GY.drew.trans hb9;have R9 := hd1 r9;clear r9 hb9;refine hK _ _ (IB ⟨rfl, λ _ => ⟨⟨_, tH⟩, rfl⟩, ?_⟩);clear hK K;refine aI [10] 3 _ ⟨⟨_, tH⟩, rfl⟩ GQ ?_;refine G9 ?_;refine az 11 2 _ _ rfl GQ ?_;refine IE rfl λ K hK => ?_;go_simp;refine hK _ _ (IB ⟨rfl, λ _ => ⟨⟨_, tH.alloc tH.size _⟩, rfl⟩, ?_⟩);clear hK K;refine aI [12, 13] 0 _ ⟨⟨_, tH.alloc tH.size _⟩, rfl⟩ GQ ?_;refine G9 ?_;refine ⟨GQ, ?_⟩;go_wp2;go_ret2;obtain ⟨cs, inv, cZ, r1, r2', r3, v0, v1, v2, v3⟩ := EN.out;exact x7r OK.out cs inv cZ r1 r2' r3 v0 v1 v2 v3 tH R9.out
end Go.Proofs.YtgffifleflkjoaaGreat
