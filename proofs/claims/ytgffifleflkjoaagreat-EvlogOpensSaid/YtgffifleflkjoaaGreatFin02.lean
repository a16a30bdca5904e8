/-
  Parts of a proof.
-/
import Derived.Test.YtgffifleflkjoaaGreatFin01
import Derived.ProofKit
import Derived.OpenShut
import Derived.Below
set_option linter.unusedSimpArgs false
set_option linter.unusedVariables false
set_option maxRecDepth 100000
set_option maxHeartbeats 16000000
namespace Go.Proofs.YtgffifleflkjoaaGreat
open _root_.Go.Proofs.Tryz
variable {w W w' w0 wr w1 W0 W1 W2 A B : World} {F G F' O : Nat → Prop} {v : Value} {l : List UInt8} {n q m pd md pl g p : Nat} {C : Array Value} {c : Int}
open Go.ChangeShapes Go.WideShapes Go.ChangeAt Go.RowKit
section
variable {H : Type} {enc : TypeId × Value -> H} {P : Program}
theorem y4b (hl : laidOutB P = true) {W' : World} (hb : Below W W W') {sp : Nat -> Bool} :
 ∀ (ts : List TypeId) (vs : List Value) (ds : List (DataW H)) (ps : List MemPlace), (∀ t ∈ ts, P.readableRec t = true /\ t < P.types.size) ->
  DataW.TrodAll enc P W 0 (λ _ => true) true ts vs ds ps -> (∀ x ∈ ps, x.block < W.heap.size) -> (∀ x ∈ ps, sp x.block = true) ->
  DataW.TrodAll enc P W' 0 sp true ts vs ds ps := by
 intro ts;induction ts with
 | nil =>
  intro vs ds ps _ h _ _;obtain ⟨rfl, rfl, rfl⟩ := trodAll_nil h;rfl
 | cons t ts ih =>
  intro vs ds ps hr h hlt hsp;obtain ⟨v, vs', d, ds', p, q, rfl, rfl, rfl, h1, h2⟩ := trodAll_cons h;have hr1 := hr t (Jp ..);refine ⟨p, q, ?_, ih vs' ds' q (λ t ht => hr t (JB _ ht)) h2 (λ x hx => hlt x (List.mem_append_right _ hx)) (λ x hx => hsp x (List.mem_append_right _ hx)), rfl⟩;exact WideElems.Trod_stays hl hr1.1 hr1.2 h1 (λ x hx => hb.same (hlt x (KW _ hx))) (λ x hx => hsp x (KW _ hx))
theorem x3s {f : Func} {s : ChangeSpec} {apart fresh handsOn again : Bool} {W' : World} {args : Array Value} {ds gs : List (DataW H)} {before : List MemPlace}
 (hl : laidOutB P = true) (hv : s.vars = []) (tb : TypeId) (z9q : P.underlying tb = some .bool) (hres : f.resultTypes = #[tb])
 (hr : ∀ t ∈ f.params.toList, P.readableRec t = true /\ t < P.types.size)
 (h1 : (s.fn H (ds ++ gs)).results = [.lit (.bool true)]) (h2 : (s.fn H (ds ++ gs)).args = ds) (h3 : (s.fn H (ds ++ gs)).vars = [])
 (hW : DataW.Whole enc P f.params.toList s.vars apart W args.toList ds gs before) (hb : Below W W W') :
 s.post enc P f apart fresh handsOn again W args (.bool true) W' := by
 have hlt : ∀ p ∈ before, p.block < W.heap.size := λ p hp => hW.lt p hp;have hW0 := hW;obtain ⟨p, q, hA, hV, rfl, hz, hn⟩ := hW0;rw [hv] at hV;obtain ⟨rfl, rfl⟩ := trodVars_none hV;rw [Ju] at hlt hz hn hW;have hargs : ∀ sp : Nat -> Bool, (∀ x ∈ p, sp x.block = true) -> DataW.TrodAll enc P W' 0 sp true f.params.toList args.toList (s.fn H (ds ++ [])).args p := by
  intro sp hsp;rw [h2];exact y4b hl hb _ _ _ _ hr hA hlt hsp
 have z9u : ∀ (b : Nat) (sp : Nat -> Bool) (hd : Bool), DataW.TrodAll enc P W' b sp hd f.resultTypes.toList ((Value.bool true).resultList f.resultTypes.size) (s.fn H (ds ++ [])).results [] := by
  intro b sp hd;rw [h1, hres];exact trodAll_mk1 (shut_bool z9q true)
 have hvars : ∀ sp : Nat -> Bool, DataW.TrodVars enc P W' sp s.vars (s.fn H (ds ++ [])).vars [] := by
  intro sp;rw [hv, h3];rfl
 refine ⟨ds, [], p, [], p, [], hW, z9u _ _ _, hargs _ (λ x hx => by simpa using hlt x hx), hvars _, World.keptBut_mono (λ x hx => ⟨hx, Iz (Iy hx)⟩) (hb.frame (· ∈ p)), λ _ => ?_⟩;refine ⟨ok_one hres rfl (okWide_bool_mk z9q true), _, _, ([] ++ p) ++ [], ⟨[] ++ p, [], trodAll_append (hargs _ (λ _ _ => rfl)) (z9u _ _ _), hvars _, rfl, ?_, ?_⟩, ?_⟩
 ·intro b off hp
  have hin : MemPlace.cell b off ∈ p := by simpa using hp
  rw [hb.frozen (hlt _ hin)];exact hz b off hin
 ·intro ha
  simpa using hn ha
 ·intro x hx _
  simpa using hx
end
theorem Tryz.own : ownKnob prog.godebug = none := GQ
theorem Tryz.laidOut : laidOutB prog = true := GQ
end Go.Proofs.YtgffifleflkjoaaGreat
