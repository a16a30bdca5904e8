/-
  Parts of a proof.
-/
import Derived.Test.YtgffifleflkjoaaGreatFin21
set_option linter.unusedSimpArgs false
set_option linter.unusedVariables false
set_option maxRecDepth 100000
set_option maxHeartbeats 16000000
namespace Go.Proofs.YtgffifleflkjoaaGreat
open _root_.Go.Proofs.Tryz
variable {w W w' w0 wr w1 W0 W1 W2 A B : World} {F G F' O : Nat → Prop} {v : Value} {l : List UInt8} {n q m pd md pl g p : Nat} {C : Array Value} {c : Int}
open Go.RowKit Dm
def cutV (ti : Value) (m : Nat) : Value := match ti with
 | .slice a n c => .slice a (min n m) c
 | v => v
theorem x6g {h : Array Obj} (x : BytesAt h F v l) (m : Nat) : BytesAt h F (cutV v m) (l.take m) := by
 rcases x with ⟨rfl, rfl⟩ | ⟨b, o, cap, c, t, fr, rfl, h2, h3, g2, g3, g4⟩
 ·exact IB ⟨by simp [cutV], GZ⟩
 ·refine IC ⟨b, o, cap, c, t, fr, ?_, ?_, h3, g2, g3, λ i y hi => g4 i y ?_⟩
  ·simp only [cutV, I7, Nat.min_comm]
  ·simp only [I7]; omega
  ·exact Qw
theorem x6s (sv t0 t1 t2 t3 u : Value) (b o n cap t m : Nat) (w : World) (ht : t < 4) (hnc : n <= cap) (hcap : cap <= 9223372036854775807) (hm : m <= 1048576) (hti : #[sv, t0, t1, t2, t3][1 + t]? = some (.slice (some (b, o)) n cap)) (ho : (#[sv, t0, t1, t2, t3] : Array Value).all (·.oneCell') = true) :
 Calls prog 85 #[.agg #[sv, t0, t1, t2, t3], .agg #[.int .i64 3, .int .i64 t, .int .i64 m, u]] w λ e w' => e = .returned (.agg (#[sv, t0, t1, t2, t3].setIfInBounds (1 + t) (.slice (some (b, o)) (min n m) cap))) /\ Below w w w' := by
 have hb0 := zx w #[sv, t0, t1, t2, t3] #[.int .i64 3, .int .i64 t, .int .i64 m, u];have rows := zw w #[sv, t0, t1, t2, t3] #[.int .i64 3, .int .i64 t, .int .i64 m, u];generalize hC : (#[sv, t0, t1, t2, t3] : Array Value) = C at *;have dA : C.size = 5 := by rw [<-hC]; rfl
 obtain ⟨W0, hW0⟩ := G8 (lL w C #[.int .i64 3, .int .i64 t, .int .i64 m, u]);rw [hW0] at hb0 rows;obtain ⟨r0, r1, r2, z0⟩ := rows;have HD := hd6 hb0 r0 r2 z0 ho dA;have k0 : W0.cell? (w.heap.size + 1, 0) = some (.int .i64 3) := ae r1 rfl;have k1 : W0.cell? (w.heap.size + 1, 1) = some (.int .i64 t) := ae r1 rfl;have k2 : W0.cell? (w.heap.size + 1, 2) = some (.int .i64 m) := ae r1 rfl;have k3 : W0.cell? (w.heap.size, 1 + t) = some (.slice (some (b, o)) n cap) := ae r0 hti;have f3 : W0.frozen? ⟨w.heap.size, 1 + t, none⟩ = false := aU r0 _;have hz : (0 : Int) <= (t : Int) := GX;have rE : (t : Int) < 4 := GX;have sc : (C.setIfInBounds (1 + t) (.slice (some (b, o)) (min n m) cap)).size = 5 := by rw [LJ]; exact dA
 have so : (C.setIfInBounds (1 + t) (.slice (some (b, o)) (min n m) cap)).all (·.oneCell') = true := by
  exact QE
 have s0 := IU W0 w.heap.size (1 + t) C aO (.slice (some ⟨b, o, none⟩) (min n m) cap) r0;have s2 := (IW W0 ⟨w.heap.size, 1 + t, none⟩ (w.heap.size + 1 + 1) (.slice (some ⟨b, o, none⟩) (min n m) cap) MR).trans r2;have mv : Below w w (W0.setCell (w.heap.size, 1 + t) (.slice (some (b, o)) (min n m) cap)) := hb0.setCell G7 _;generalize hC' : C.setIfInBounds (1 + t) (.slice (some ⟨b, o, none⟩) (min n m) cap) = C' at *;have SC := hd5 sc so s0 s2 mv;have HC' := hd1 hC';clear sc so s0 s2 mv hC' hb0 r0 r1 r2 z0 ho dA hC hti;by_cases wC : ¬ m < n
 ·have e1 : min n m = n := GX
  rw [e1] at SC;have HN := hd1 e1;clear e1;have c3 : n <= cap := hnc;have c4 : (n : Int) <= (cap : Int) := GX;go_in;go_upto_region 1 with fail
  clear hW0;go_wp2;refine qI 19 GV GV ?_;simp only [Jv, JO, JP, JQ];repeat still_step
  refine Kh ?_;refine IJ rfl λ K hK => ?_;go_simp;refine hK _ _ ?_;clear hK K;simp only [wpList];clear k0 k1 k2 k3 f3;generalize (W0.setCell (w.heap.size, 1 + t) (.slice (some ⟨b, o, none⟩) n cap)) = W4 at *;exact OX
 ·have wC : m < n := GX
  have e1 : min n m = m := GX;rw [e1] at SC;have HN := hd1 e1;clear e1;have c3 : m <= cap := GX;have c4 : (m : Int) <= (cap : Int) := GX;go_in;go_upto_region 1 with fail
  clear hW0;go_wp2;refine qI 19 GV GV ?_;simp only [Jv, JO, JP, JQ];repeat still_step
  refine Kh ?_;refine IJ rfl λ K hK => ?_;go_simp;refine hK _ _ ?_;clear hK K;simp only [wpList];clear k0 k1 k2 k3 f3;generalize (W0.setCell (w.heap.size, 1 + t) (.slice (some ⟨b, o, none⟩) m cap)) = W4 at *;exact OX
theorem x6r (sv t0 t1 t2 t3 u : Value) (t m : Nat) (w : World) (ht : t < 4) (hm : m <= 1048576) (hti : #[sv, t0, t1, t2, t3][1 + t]? = some (.slice none 0 0)) (ho : (#[sv, t0, t1, t2, t3] : Array Value).all (·.oneCell') = true) :
 Calls prog 85 #[.agg #[sv, t0, t1, t2, t3], .agg #[.int .i64 3, .int .i64 t, .int .i64 m, u]] w λ e w' => e = .returned (.agg (#[sv, t0, t1, t2, t3].setIfInBounds (1 + t) (.slice none 0 0))) /\ Below w w w' := by
 have hb0 := zx w #[sv, t0, t1, t2, t3] #[.int .i64 3, .int .i64 t, .int .i64 m, u];have rows := zw w #[sv, t0, t1, t2, t3] #[.int .i64 3, .int .i64 t, .int .i64 m, u];generalize hC : (#[sv, t0, t1, t2, t3] : Array Value) = C at *;have dA : C.size = 5 := by rw [<-hC]; rfl
 obtain ⟨W0, hW0⟩ := G8 (lL w C #[.int .i64 3, .int .i64 t, .int .i64 m, u]);rw [hW0] at hb0 rows;obtain ⟨r0, r1, r2, z0⟩ := rows;have HD := hd6 hb0 r0 r2 z0 ho dA;have k0 : W0.cell? (w.heap.size + 1, 0) = some (.int .i64 3) := ae r1 rfl;have k1 : W0.cell? (w.heap.size + 1, 1) = some (.int .i64 t) := ae r1 rfl;have k2 : W0.cell? (w.heap.size + 1, 2) = some (.int .i64 m) := ae r1 rfl;have k3 : W0.cell? (w.heap.size, 1 + t) = some (.slice none 0 0) := ae r0 hti;have f3 : W0.frozen? ⟨w.heap.size, 1 + t, none⟩ = false := aU r0 _;have hz : (0 : Int) <= (t : Int) := GX;have rE : (t : Int) < 4 := GX;have sc : (C.setIfInBounds (1 + t) (.slice none 0 0)).size = 5 := by rw [LJ]; exact dA
 have so : (C.setIfInBounds (1 + t) (.slice none 0 0)).all (·.oneCell') = true := by
  exact QE
 have s0 := IU W0 w.heap.size (1 + t) C aO (.slice none 0 0) r0;have s2 := (IW W0 ⟨w.heap.size, 1 + t, none⟩ (w.heap.size + 1 + 1) (.slice none 0 0) MR).trans r2;have mv : Below w w (W0.setCell (w.heap.size, 1 + t) (.slice none 0 0)) := hb0.setCell G7 _;generalize hC' : C.setIfInBounds (1 + t) (.slice none 0 0) = C' at *;have SC := hd5 sc so s0 s2 mv;have HC' := hd1 hC';clear sc so s0 s2 mv hC' hb0 r0 r1 r2 z0 ho dA hC hti;have hif : (if (m : Int) < 0 then (m : Int) else 0) = 0 := by rw [IA GX]
 go_in;go_upto_region 1 with fail
 clear hW0;go_wp2;refine qI 19 GV GV ?_;simp only [Jv, JO, JP, JQ];repeat still_step
 refine Kh ?_;refine IJ rfl λ K hK => ?_;go_simp;refine hK _ _ ?_;clear hK K;simp only [wpList];clear k0 k1 k2 k3 f3;generalize (W0.setCell (w.heap.size, 1 + t) (.slice none 0 0)) = W4 at *;exact OX
end Go.Proofs.YtgffifleflkjoaaGreat
