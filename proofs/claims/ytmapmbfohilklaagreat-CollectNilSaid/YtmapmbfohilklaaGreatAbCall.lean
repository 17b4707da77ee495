/-
  The abstract machine: closed calls.
-/
import Derived.Test.YtmapmbfohilklaaGreatAbZ
import Derived.Test.YtmapmbfohilklaaGreatHeap
namespace Go.Proofs.YtmapmbfohilklaaGreat.Ab
open Go.RowKit

/-! ### values without names -/
mutual
def toV : AV → Value
  | .bool b => .bool b
  | .int k n => .int k n
  | .nilp => .pointer none
  | .nils => .slice none 0 0
  | .nilm => .map none
  | .nilf => .nilFunc
  | .nili => .nilIface
  | .str _ _ => .string ⟨#[]⟩
  | .agg l => .agg (toVs l).toArray
  | .tuple l => .tuple (toVs l).toArray
  | .iface t v => .iface t (toV v)
  | _ => .nilFunc
def toVs : List AV → List Value
  | [] => []
  | a :: l => toV a :: toVs l
end
mutual
def plainV : AV → Bool
  | .bool _ | .int _ _ | .nilp | .nils | .nilm | .nilf | .nili => true
  | .str n _ => Nat.beq n 0
  | .agg l => plainVs l
  | .tuple l => plainVs l
  | .iface _ v => plainV v
  | _ => false
def plainVs : List AV → Bool
  | [] => true
  | a :: l => plainV a && plainVs l
end
theorem VR.toV {μ : Mu} {a : AV} {v : Value} (h : VR μ a v) : plainV a = true → v = toV a := by
  refine VR.rec (motive_1 := fun a v _ => plainV a = true → v = Ab.toV a) (motive_2 := fun l m _ => plainVs l = true → m = toVs l) ?_ ?_ ?_ ?_ ?_ ?_ ?_ ?_ ?_ ?_ ?_ ?_ ?_ ?_ ?_ ?_ ?_ ?_ ?_ ?_ ?_ ?_ h
  · exact fun v h => by cases h
  · exact fun b _ => rfl
  · exact fun k n _ => rfl
  · exact fun n N s h1 h2 h => by
      have h0 : n = 0 := Nat.beq_eq.mp h
      subst h0
      have : s.data = #[] := Array.eq_empty_of_size_eq_zero h1
      show Value.string s = Value.string ⟨#[]⟩
      rw [show s = ⟨s.data⟩ from rfl, this]
  · exact fun _ => rfl
  · exact fun b off L h hu => by cases hu
  · exact fun _ => rfl
  · exact fun b off len cap g L h hu => by cases hu
  · exact fun b off a c L h ha hu => by cases hu
  · exact fun _ => rfl
  · exact fun b L h hu => by cases hu
  · exact fun _ => rfl
  · exact fun f a c x y _ _ ha hc hu => by cases hu
  · exact fun l L h hu => by cases hu
  · exact fun name r v y _ h hu => by cases hu
  · exact fun _ => rfl
  · exact fun t a v _ h hu => by rw [h (by simpa only [plainV] using hu)]; rfl
  · exact fun l x _ h hu => by
      have := h (by simpa only [plainV] using hu)
      show Value.agg x = Value.agg (toVs l).toArray
      rw [← this]
  · exact fun l x _ h hu => by
      have := h (by simpa only [plainV] using hu)
      show Value.tuple x = Value.tuple (toVs l).toArray
      rw [← this]
  · exact fun v h hu => by cases hu
  · exact fun _ => rfl
  · exact fun a v l m _ _ h t hu => by
      simp only [plainVs, Bool.and_eq_true] at hu
      rw [h hu.1, t hu.2]; rfl

/-! ### closed calls -/
noncomputable def isDoneV (x : X) (u : AV) : Bool :=
  X.rec (motive := fun _ => AV → Bool) (fun _ _ _ => false) (fun _ _ _ _ => false) (fun _ _ _ _ => false) (fun _ _ => false) (fun _ _ _ => false) (fun _ _ _ => false) (fun _ _ _ _ _ _ => false) (fun _ _ _ _ _ _ => false) (fun _ _ _ _ _ _ => false) (fun _ _ _ _ _ _ => false) (fun _ _ _ _ => false) (fun v _ u => AV.beq v u) x u
theorem isDoneV_sound {x : X} {u : AV} (h : isDoneV x u = true) : ∃ H, x = .done u H := by
  cases x <;> first | (cases h; done) | skip
  rename_i v H
  exact ⟨H, by rw [beq_sound v u h]⟩
def noK : Hooks := fun _ => none
theorem noK_ok {P : Program} {w0 : World} {G : Nat} : HookOK P w0 G noK := fun _ _ h => by cases h
/-- A closed call, run by the abstract machine: it returns what that yields, and what was there before is as it was. -/
theorem closed_calls {P : Program} {s f : Nat} {args : List AV} {u : AV} (h : isDoneV (callRun P noK 0 s f args ⟨0, .nil⟩) u = true) (hp : plainV u = true) {cargs : Array Value} (ha : LR (fun _ => none) args cargs.toList) {x : Value} (hx : toV u = x) (w : World) :
    Calls P f cargs w fun e w' => e = .returned x ∧ Fr Non w w' := by
  obtain ⟨H', hr⟩ := isDoneV_sound h
  refine (callRun_sound (w0 := w) (w := w) noK_ok hr ha (HR.start w)).mono ?_
  rintro e w' ⟨v, μ', rfl, hv, hh⟩
  refine ⟨by rw [hv.toV hp, hx], hh.below.os, hh.below.tape, hh.below.output, hh.below.size, fun k hk _ => hh.below.block k hk⟩
end Go.Proofs.YtmapmbfohilklaaGreat.Ab
