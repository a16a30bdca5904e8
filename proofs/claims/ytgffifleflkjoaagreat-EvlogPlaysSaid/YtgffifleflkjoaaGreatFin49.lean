/-
  Parts of a proof.
-/
import Derived.Test.YtgffifleflkjoaaGreatFin38
set_option linter.unusedSimpArgs false
set_option linter.unusedVariables false
set_option maxRecDepth 100000
set_option maxHeartbeats 16000000
namespace Go.Proofs.YtgffifleflkjoaaGreat
open _root_.Go.Proofs.Tryz
variable {w W w' w0 wr w1 W0 W1 W2 A B : World} {F G F' O : Nat → Prop} {v : Value} {l : List UInt8} {n q m pd md pl g p : Nat} {C : Array Value} {c : Int}
open Go.RowKit Dm
theorem x0o {d : D} (hr : bU w.heap F v d) (ok : d.ok) (hn : d.waits.length <= 1000000000000) (c : bH) {kv : Value} (hk : oq w.heap kv c.keep) (hkl : c.keep.length <= 1000000) (ht0 : -9223372036854775808 <= c.bq) (ht1 : c.bq <= 9223372036854775807) (hp0 : -9223372036854775808 <= c.part) (hp1 : c.part <= 9223372036854775807) :
 Calls prog 56 #[v, .agg #[kv, .int .i64 c.bq, .int .i64 c.part]] w λ e w' => ∃ v', e = .returned v' /\ Below w w w' /\ bU w'.heap (plus F w w') v' (d.aT c) := by
 obtain ⟨sv, t0, t1, t2, t3, wv, rfl, rb, st⟩ := hr;obtain ⟨wa, wc, rfl, hwc, x3d⟩ := st.slice;obtain ⟨ka, kc, rfl⟩ := hk.slice;have ones := rb.ones;generalize hC : dC d.many d.room sv t0 t1 t2 t3 (.slice wa d.waits.length wc) d.dead d.stops = C;have mid : ∀ X : World, X.heap[w.heap.size]? = some (.cells C af) -> X.rangeAt w.heap.size 2 [sv, t0, t1, t2, t3] /\ X.cell? (w.heap.size, 7) = some (.slice wa d.waits.length wc) /\ X.cell? w.heap.size = some (.int .i64 d.many) /\ X.cell? (w.heap.size, 1) = some (.int .i64 d.room) := λ X hX => by
  rw [<-hC] at hX;refine ⟨λ j u hj => ?_, ae hX rfl, ae hX rfl, ae hX rfl⟩;exact PW
 have HD := hd6 rb st ones mid ok hk;have hl0 : (0 : Int) <= (d.waits.length : Int) := GX;have hl1 : (d.waits.length : Int) <= 1000000000000 := GX;have w1e : (c.keep.length : Int) <= 1000000 := GX;have RS := λ W1 hm hw => x0n (w := w) (W1 := W1) (F := F) (d := d) (kv := .slice ka c.keep.length kc) (c := c) (C := C) rb hm hw;have RS := hd1 RS;have qq : ((((w.alloc (.cells C af)).alloc (.cells #[.slice ka c.keep.length kc, .int .i64 c.bq, .int .i64 c.part] ji)).alloc (.cells bS af))).heap[w.heap.size]? = some (.cells C af) := aM NP (aM GZ (II w _));have QQ := hd1 qq;clear rb st ones mid ok hC qq hk;go_in
 go_upto_region 3 with (first
  | (refine JE rfl aO (.tmp 12) rfl w.heap.size 2 rfl [sv, t0, t1, t2, t3] _ (HD.2.2.2.1 _ QQ.out).1 Ib rfl bX ?_)
  | (refine aD rfl aO _ _ rfl (w.heap.size + 1 + 1 + 1) #[sv, t0, t1, t2, t3] rfl rfl aO eX (bC (w := ((w.alloc (.cells C af)).alloc (.cells #[.slice ka c.keep.length kc, .int .i64 c.bq, .int .i64 c.part] ji)).alloc (.cells bS af)) _ GZ) bX rfl HD.2.2.1 ?_
     intro W1 HW1 dx jM))
 have cs0 := RS.out W1 dx HW1.out;have nX := hd1 (show lY w F d C (.slice ka c.keep.length kc) c W1.heap.size 0 (W1.alloc (.cells #[false, false, false, false] mE)) from ⟨_, _, cs0, gq.start HD.2.2.2.2.1, rfl⟩);have ez : W1.heap.size = w.heap.size + 1 + 1 + 1 + 1 := by rw [jM]; simp
 rw [ez] at nX;clear cs0 dx jM HW1 RS QQ ez;generalize (W1.alloc (.cells #[false, false, false, false] mE)) = W2 at *;generalize w.heap.size + 1 + 1 + 1 + 1 = e0 at *;go_wp2;go_loopg [7] d.waits.length (λ g s wr => ∃ k : Nat, s = .int .i64 (k : Int) /\ g + k = d.waits.length /\ lY w F d C (.slice ka c.keep.length kc) c e0 k wr)
 case atStart => exact ⟨0, rfl, rfl, nX.out⟩
 case round =>
  obtain ⟨k, rfl, hg, hrel⟩ := hrel;obtain ⟨x, en, cs, inv, cZ⟩ := hrel;have c7 := (HD.2.2.2.1 _ cs.r0).2.1;by_cases hlt : k < d.waits.length
  ·obtain ⟨s, hs⟩ : ∃ s, d.waits[k]? = some s := ⟨_, IX hlt⟩
   have pJ : iC wr.heap (xq F w e0) (.slice wa d.waits.length wc) d.waits := HD.2.1.keeps (λ k _ hl => cs.below.block k hl) (λ k h hl => IB ⟨h, hl⟩);obtain ⟨_, b, o, u, rfl, lb, bu, qW⟩ := pJ.at hs;have pO : s.ok d.many := HD.2.2.2.2.1.waits s (Jg hs);have hk0 : (0 : Int) <= (k : Int) := GX;have hk1 : (k : Int) < (d.waits.length : Int) := GX;have CS := hd7 cs inv cZ hs hg bu qW;have oW := hd1 pO;have u1 : u.oneCell' = true := bu.one;have U1 := hd1 u1;clear cs inv cZ hs hg bu qW pJ u1
   go_upto_region 7 with (first
    | (refine JE rfl bJ (.tmp 24) rfl b (o + k * 4) rfl [.int .i64 s.what, .int .i64 s.n, .int .i64 s.many, u] _ CS.2.2.2.2.2.2 Il rfl rD ?_)
    | (refine aD rfl bJ _ _ rfl wr.heap.size #[.int .i64 s.what, .int .i64 s.n, .int .i64 s.many, u] rfl rfl bJ _ (II wr _) rD (by rfl) (by simp [U1.out]; simp [Value.oneCell']) ?_
       intro W5 aF az bf))
   have hb5 : Below wr wr W5 := Moves.new (bla) az G7;have C5 := hd3 (CS.1.next hb5) aF.out (CS.2.2.2.2.2.1.keeps (F' := xq F w e0) (λ k _ hl => hb5.block k hl) (λ _ h _ => h));have kw : W5.cell? ⟨wr.heap.size, 0, none⟩ = some (.int .i64 s.what) := ae aF.out rfl;have kn : W5.cell? ⟨wr.heap.size, 1, none⟩ = some (.int .i64 s.n) := ae aF.out rfl;clear az bf aF hb5 c7;by_cases h1 : s.what = 1
   ·have hneq : (s.what != 1) = false := by simpa using h1
    have H1 := hd2 h1 trivial;have uL := hd1 (show ¬ (s.what ≠ 1 /\ en s.n = true) from λ h => h.1 h1);clear h1 kn;go_upto_region 9 with fail
    go_cut [10] (λ s10 wx => s10 = .bool (c.dz d.waits.length k) /\ W5 = wx)
    case first =>
     exact Ow
    case rest =>
     obtain ⟨rfl, rfl⟩ := hcut;have kk : W5.cell? (w.heap.size + 1, 0) = some (.slice ka c.keep.length kc) := ae C5.1.r1 rfl;go_upto_region 10 with fail
     go_cut [11] (λ s11 wx => s11 = .bool (c.kept k) /\ ∃ nq, wx = W5.drewN nq)
     case first =>
      by_cases dO : 0 < c.keep.length
      ·obtain ⟨kb, ko, rfl, hkc⟩ : ∃ kb ko, ka = some ⟨kb, ko, none⟩ /\ ∀ (i : Nat) (x : Bool), c.keep[i]? = some x -> W5.cell? ⟨kb, ko + i, none⟩ = some (.bool x) := by
        exact Pk
       have hj : k % c.keep.length < c.keep.length := KA _ dO;have GD := hkc (k % c.keep.length) c.keep[k % c.keep.length] (IX hj);have ev : c.kept k = c.keep[k % c.keep.length] := by
        have e0 : max 1 c.keep.length = c.keep.length := GX;simp [bH.kept, dO, e0, LA, IX hj]
       have EV := hd1 ev;have e2 : decide (0 < (c.keep.length : Int)) = true := by simp; omega
       have hif : (if 1 < (c.keep.length : Int) then (c.keep.length : Int) else 1) = (c.keep.length : Int) := by
        by_cases h : 1 < (c.keep.length : Int)
        ·rw [IE h]
        ·rw [IA h]; omega
       have hne : ¬ ((c.keep.length : Int) = 0) := GX;have htm : (k : Int).tmod (c.keep.length : Int) = ((k % c.keep.length : Nat) : Int) := by rw [Jn GX]; rfl
       clear ev hkc;generalize c.keep[k % c.keep.length] = Gx at *;generalize k % c.keep.length = j at *;have hj0 : (0 : Int) <= (j : Int) := GX;have hj1 : (j : Int) < (c.keep.length : Int) := GX;have hmx : max 1 (c.keep.length : Int) = (c.keep.length : Int) := GX;go_quiet (fail)
       go_wp2_with fail
       go_meet
       exact ⟨by rw [EV.out], _, rfl⟩
      ·exact OD
     case rest =>
      obtain ⟨rfl, nq, rfl⟩ := hcut;obtain ⟨W7, gG⟩ := G8 (W5.drewN nq);have ib : Below W5 W5 W7 := by rw [<-gG]; exact below_drewN G6 nq
      have C7 := hd3 (C5.1.next ib) ((ib.block _ (aa C5.2.1)).trans C5.2.1) (C5.2.2.keeps (F' := xq F w e0) (λ k _ hl => ib.block k hl) (λ _ h _ => h));rw [gG];clear gG ib C5 kk kw;have fE := HD.2.2.2.2.1.fE;have hx : ∀ t, (x.tp t).length <= 1048576 := λ t => Hm (CS.2.1.room HD.2.2.2.2.1 t);obtain ⟨x_, y0, y1, y2, y3, r7, oG⟩ := C7.1.rb;have vV : w.heap.size + 1 + 1 + 1 < wr.heap.size := by obtain ⟨_, _, _, _, _, r, _⟩ := CS.1.rb; exact aa r
      have kp : W7.cell? (w.heap.size + 1, 2) = some (.int .i64 c.part) := ae C7.1.r1 rfl;have mh := hd1 (yz oG HD.2.2.2.2.1.many1 oW.out C7.2.2 hx);have mg := hd1 (z5n oG HD.2.2.2.2.1.many1 oW.out C7.2.2 hx CS.2.1.sec c.part hp0 hp1);have R7 := hd2 r7 vV;clear oG r7 vV hx fE;cases hT : c.dz d.waits.length k
      ·cases hK : c.kept k
       ·have HT := hd2 hT hK
        clear hT hK;obtain ⟨W8, eW8⟩ : ∃ W8, W8 = W7 := ⟨_, rfl⟩;subst eW8;have C8 := hd2 C7.1 C7.2.1;clear kp mh mg C7;exact Pz
       ·have HT := hd2 hT hK
        clear hT hK
        go_upto_region 15 with (first
         | (refine He R7.1 Ib bX ?_)
         | (refine He C7.2.1 Il rD ?_)
         | (go_at_call 85; refine mh.mono ?_; rintro e W1 ⟨gU, z0, z1, z2, z3, rfl, hb1, dI⟩)
         | (refine aD rfl aO _ _ rfl (w.heap.size + 1 + 1 + 1) #[gU, z0, z1, z2, z3] rfl rfl aO _ ((hb1.block _ (aa R7.1)).trans R7.1) bX rfl dI.ones ?_
            intro W8 gp dL kC;have C8 := hd2 (C7.1.did hb1 dI dL gp.out) ((dL.block _ (Ho hb1.size (aa C7.2.1)) (Hm R7.2)).trans ((hb1.block _ (aa C7.2.1)).trans C7.2.1));clear hb1 dI gp dL kC kp mh mg C7))
        exact Pz
      ·have HT := hd1 hT
       clear hT
       go_upto_region 15 with (first
        | (refine He R7.1 Ib bX ?_)
        | (refine He C7.2.1 Il rD ?_)
        | (go_at_call 95; refine mg.mono ?_; rintro e W1 ⟨gU, z0, z1, z2, z3, rfl, hb1, dI⟩)
        | (refine aD rfl aO _ _ rfl (w.heap.size + 1 + 1 + 1) #[gU, z0, z1, z2, z3] rfl rfl aO _ ((hb1.block _ (aa R7.1)).trans R7.1) bX rfl dI.ones ?_
           intro W8 gp dL kC;have C8 := hd2 (C7.1.did hb1 dI dL gp.out) ((dL.block _ (Ho hb1.size (aa C7.2.1)) (Hm R7.2)).trans ((hb1.block _ (aa C7.2.1)).trans C7.2.1));clear hb1 dI gp dL kC kp mh mg C7))
       go_wp2;go_roundg (d.waits.length - (k + 1))
       case measure => have := CS.2.2.2.2.1; omega
       case rel => exact ⟨k + 1, by go_num, Hm CS.2.2.2.2.1, lY.next HD.2.2.2.2.1 CS.2.1 CS.2.2.1 CS.2.2.2.1 uL.out C8.1 Nw (by simp [f_, H1.1])⟩
   ·obtain ⟨t, et, ht⟩ : ∃ t : Nat, s.n = t /\ t < 4 := by
     rcases oW.out with h | h | h
     ·exact absurd h.1 h1
     ·exact Rl
     ·exact Rl
    have hneq : (s.what != 1) = true := by simpa using h1
    rw [et] at kn;have k3 := C5.1.rW t ht;have t0' : (0 : Int) <= t := GX;have t1' : (t : Int) < 4 := GX;cases hen : en t
    ·rw [hen] at k3
     have uL := hd1 (show ¬ (s.what ≠ 1 /\ en s.n = true) from λ h => by have := h.2; rw [et, hen] at this; cases this);have H1 := hd4 h1 et ht hen;clear h1 et hen;go_upto_region 9 with fail
     go_cut [10] (λ s10 wx => s10 = .bool (c.dz d.waits.length k) /\ W5 = wx)
     case first =>
      exact Ow
     case rest =>
      obtain ⟨rfl, rfl⟩ := hcut;have kk : W5.cell? (w.heap.size + 1, 0) = some (.slice ka c.keep.length kc) := ae C5.1.r1 rfl;go_upto_region 10 with fail
      go_cut [11] (λ s11 wx => s11 = .bool (c.kept k) /\ ∃ nq, wx = W5.drewN nq)
      case first =>
       by_cases dO : 0 < c.keep.length
       ·obtain ⟨kb, ko, rfl, hkc⟩ : ∃ kb ko, ka = some ⟨kb, ko, none⟩ /\ ∀ (i : Nat) (x : Bool), c.keep[i]? = some x -> W5.cell? ⟨kb, ko + i, none⟩ = some (.bool x) := by
         exact Pk
        have hj : k % c.keep.length < c.keep.length := KA _ dO;have GD := hkc (k % c.keep.length) c.keep[k % c.keep.length] (IX hj);have ev : c.kept k = c.keep[k % c.keep.length] := by
         have e0 : max 1 c.keep.length = c.keep.length := GX;simp [bH.kept, dO, e0, LA, IX hj]
        have EV := hd1 ev;have e2 : decide (0 < (c.keep.length : Int)) = true := by simp; omega
        have hif : (if 1 < (c.keep.length : Int) then (c.keep.length : Int) else 1) = (c.keep.length : Int) := by
         by_cases h : 1 < (c.keep.length : Int)
         ·rw [IE h]
         ·rw [IA h]; omega
        have hne : ¬ ((c.keep.length : Int) = 0) := GX;have htm : (k : Int).tmod (c.keep.length : Int) = ((k % c.keep.length : Nat) : Int) := by rw [Jn GX]; rfl
        clear ev hkc;generalize c.keep[k % c.keep.length] = Gx at *;generalize k % c.keep.length = j at *;have hj0 : (0 : Int) <= (j : Int) := GX;have hj1 : (j : Int) < (c.keep.length : Int) := GX;have hmx : max 1 (c.keep.length : Int) = (c.keep.length : Int) := GX;go_quiet (fail)
        go_wp2_with fail
        go_meet
        exact ⟨by rw [EV.out], _, rfl⟩
       ·exact OD
      case rest =>
       obtain ⟨rfl, nq, rfl⟩ := hcut;obtain ⟨W7, gG⟩ := G8 (W5.drewN nq);have ib : Below W5 W5 W7 := by rw [<-gG]; exact below_drewN G6 nq
       have C7 := hd3 (C5.1.next ib) ((ib.block _ (aa C5.2.1)).trans C5.2.1) (C5.2.2.keeps (F' := xq F w e0) (λ k _ hl => ib.block k hl) (λ _ h _ => h));rw [gG];clear gG ib C5 kk kw;have fE := HD.2.2.2.2.1.fE;have hx : ∀ t, (x.tp t).length <= 1048576 := λ t => Hm (CS.2.1.room HD.2.2.2.2.1 t);obtain ⟨x_, y0, y1, y2, y3, r7, oG⟩ := C7.1.rb;have vV : w.heap.size + 1 + 1 + 1 < wr.heap.size := by obtain ⟨_, _, _, _, _, r, _⟩ := CS.1.rb; exact aa r
       have kp : W7.cell? (w.heap.size + 1, 2) = some (.int .i64 c.part) := ae C7.1.r1 rfl;have mh := hd1 (yz oG HD.2.2.2.2.1.many1 oW.out C7.2.2 hx);have mg := hd1 (z5n oG HD.2.2.2.2.1.many1 oW.out C7.2.2 hx CS.2.1.sec c.part hp0 hp1);have R7 := hd2 r7 vV;clear oG r7 vV hx fE;cases hT : c.dz d.waits.length k
       ·cases hK : c.kept k
        ·have HT := hd2 hT hK
         clear hT hK;obtain ⟨W8, eW8⟩ : ∃ W8, W8 = W7 := ⟨_, rfl⟩;subst eW8;have C8 := hd2 C7.1 C7.2.1;clear kp mh mg C7;have kn8 : W8.cell? ⟨wr.heap.size, 1, none⟩ = some (.int .i64 (t : Int)) := by rw [<-H1.2.1]; exact ae C8.2 rfl
         have ke8 := C8.1.rW t H1.2.2.1;have fe8 : W8.frozen? ⟨e0, t, none⟩ = false := aU C8.1.ends _;go_wp2;go_roundg (d.waits.length - (k + 1))
         case measure => have := CS.2.2.2.2.1; omega
         case rel => exact ⟨k + 1, by go_num, Hm CS.2.2.2.2.1, lY.next HD.2.2.2.2.1 CS.2.1 CS.2.2.1 CS.2.2.2.1 uL.out (C8.1.wL t H1.2.2.1 true) Np (by simp [f_, H1.1, HT.1, HT.2, H1.2.1])⟩
        ·have HT := hd2 hT hK
         clear hT hK
         go_upto_region 15 with (first
          | (refine He R7.1 Ib bX ?_)
          | (refine He C7.2.1 Il rD ?_)
          | (go_at_call 85; refine mh.mono ?_; rintro e W1 ⟨gU, z0, z1, z2, z3, rfl, hb1, dI⟩)
          | (refine aD rfl aO _ _ rfl (w.heap.size + 1 + 1 + 1) #[gU, z0, z1, z2, z3] rfl rfl aO _ ((hb1.block _ (aa R7.1)).trans R7.1) bX rfl dI.ones ?_
             intro W8 gp dL kC;have C8 := hd2 (C7.1.did hb1 dI dL gp.out) ((dL.block _ (Ho hb1.size (aa C7.2.1)) (Hm R7.2)).trans ((hb1.block _ (aa C7.2.1)).trans C7.2.1));clear hb1 dI gp dL kC kp mh mg C7))
         go_wp2;go_roundg (d.waits.length - (k + 1))
         case measure => have := CS.2.2.2.2.1; omega
         case rel => exact ⟨k + 1, by go_num, Hm CS.2.2.2.2.1, lY.next HD.2.2.2.2.1 CS.2.1 CS.2.2.1 CS.2.2.2.1 uL.out C8.1 Np (by
          simp only [f_, HT.1, HT.2, H1.1, ne_eq, Lx, I6, Bool.not_true, Bool.or_false];exact (y4e (H1.2.1 ▸ H1.2.2.2)).symm)⟩
       ·have HT := hd1 hT
        clear hT
        go_upto_region 15 with (first
         | (refine He R7.1 Ib bX ?_)
         | (refine He C7.2.1 Il rD ?_)
         | (go_at_call 95; refine mg.mono ?_; rintro e W1 ⟨gU, z0, z1, z2, z3, rfl, hb1, dI⟩)
         | (refine aD rfl aO _ _ rfl (w.heap.size + 1 + 1 + 1) #[gU, z0, z1, z2, z3] rfl rfl aO _ ((hb1.block _ (aa R7.1)).trans R7.1) bX rfl dI.ones ?_
            intro W8 gp dL kC;have C8 := hd2 (C7.1.did hb1 dI dL gp.out) ((dL.block _ (Ho hb1.size (aa C7.2.1)) (Hm R7.2)).trans ((hb1.block _ (aa C7.2.1)).trans C7.2.1));clear hb1 dI gp dL kC kp mh mg C7))
        have kn8 : W8.cell? ⟨wr.heap.size, 1, none⟩ = some (.int .i64 (t : Int)) := by rw [<-H1.2.1]; exact ae C8.2 rfl
        have ke8 := C8.1.rW t H1.2.2.1;have fe8 : W8.frozen? ⟨e0, t, none⟩ = false := aU C8.1.ends _;go_wp2;go_roundg (d.waits.length - (k + 1))
        case measure => have := CS.2.2.2.2.1; omega
        case rel => exact ⟨k + 1, by go_num, Hm CS.2.2.2.2.1, lY.next HD.2.2.2.2.1 CS.2.1 CS.2.2.1 CS.2.2.2.1 uL.out (C8.1.wL t H1.2.2.1 true) Nw (by simp [f_, H1.1, HT.out, H1.2.1])⟩
    ·rw [hen] at k3
     have SK := hd1 (show s.what ≠ 1 /\ en s.n = true from ⟨h1, by rw [et]; exact hen⟩);clear h1 et hen;go_wp2;go_roundg (d.waits.length - (k + 1))
     case measure => have := CS.2.2.2.2.1; omega
     case rel => exact ⟨k + 1, by go_num, Hm CS.2.2.2.2.1, lY.skip CS.2.1 CS.2.2.1 CS.2.2.2.1 SK.out C5.1⟩
  ·obtain rfl : k = d.waits.length := GX
   have ex : x = eQ c d.waits.length d.waits 0 d.lasts (λ _ => false) := by
    rw [<-cZ, Mf.2 G7];rfl
   obtain ⟨x_, y0, y1, y2, y3, r7, oG⟩ := cs.rb;have c0 := (HD.2.2.2.1 _ cs.r0).2.2.1;have c1 := (HD.2.2.2.1 _ cs.r0).2.2.2;have E := hd4 cs r7 oG ex;clear cs inv cZ r7 oG ex hg;have z7g : (dC d.many d.room x_ y0 y1 y2 y3 (.slice none 0 0) false (-1)).all (·.oneCell') = true := yu E.2.2.1 rfl _ _ _ _;have OF := hd1 z7g;clear z7g
   go_wp2_with (first
    | (refine He E.2.1 Ib bX ?_)
    | (refine aD rfl af _ _ rfl (w.heap.size + 1 + 1) (dC d.many d.room x_ y0 y1 y2 y3 (.slice none 0 0) false (-1)) rfl rfl af bS E.1.r2 aI rfl OF.out ?_
       intro W9 bN aS fB))
   refine Hg bN.out Hz aI ?_;have hf := E.1.far;have hz := E.1.below.size;have hz9 := aS.size;refine ⟨_, rfl, Moves.new E.1.below aS GX, x_, y0, y1, y2, y3, .slice none 0 0, rfl, ?_, IB ⟨rfl, rfl⟩⟩;have hx : (d.aT c).lasts = x := E.2.2.2.symm;rw [hx];refine E.2.2.1.keeps (λ k hk hl => aS.block k hl (λ e => by rcases hk with hk | hk <;> omega)) (λ k hk hl => ?_);exact Rn
end Go.Proofs.YtgffifleflkjoaaGreat
