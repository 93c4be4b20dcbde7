/- The law on drawn regions, its operations read off the list. Conditions: none of its own. -/
import Derived.Test.YtbijoeemioeejaaH
namespace Go.Proofs.Ytbijoeemioeejaa

section
variable {P : Program} {ops : Array Oper} {Q : Exit → Act → World → Prop} {md : Region.Mode} {C0 C1 : World → Prop} {B : List Nat}
theorem drop_get {l rest : List Oper} {i : Nat} {o : Oper} (h : l.drop i = o :: rest) : l.toArray[i]? = some o := by
  rw [List.getElem?_toArray]
  have := congrArg (fun x => x[0]?) h
  simpa using this
/-- The same, the operation read off the list, so that it is written out. -/
theorem takeG {l rest : List Oper} {i : Nat} {oi : Oper} {v : Value} {fuel : Nat} {listed : Array Bool} {a : Act} {w : World} (hd : l.drop i = oi :: rest) (hiB : B.contains i = false)
    (hs : Region.noSelect l.toArray = true) (hf : Region.free md l.toArray listed i = true) (hr : (Region.ready md l.toArray listed).contains i = true)
    (hQ : ∀ c a w, Q (.panic c) (a.put oi.dst v) w → Q (.panic c) a w) (hy : YieldsIf P l.toArray C0 oi v a) (hS : Hold C0 C1 B listed w)
    (h : Hold C0 C1 B (listed.setIfInBounds i true) w → wpAnyG P md l.toArray Q C0 C1 B fuel (listed.setIfInBounds i true) (a.put oi.dst v) w) : wpAnyG P md l.toArray Q C0 C1 B (fuel + 1) listed a w :=
  wpAnyG_take (drop_get hd) hiB hs hf hr hQ hy hS h
theorem takeG1 {l rest : List Oper} {i : Nat} {oi : Oper} {v : Value} {fuel : Nat} {listed : Array Bool} {a : Act} {w : World} (hd : l.drop i = oi :: rest) (hiB : B.contains i = false)
    (hs : Region.noSelect l.toArray = true) (hf : Region.free md l.toArray listed i = true) (hr : (Region.ready md l.toArray listed).contains i = true) (hu : unl B listed = true) (hw : (B.all fun s => Region.waitsFor md l.toArray s i) = true)
    (hQ : ∀ c a w, Q (.panic c) (a.put oi.dst v) w → Q (.panic c) a w) (hy : YieldsIf P l.toArray (fun w => C0 w ∧ C1 w) oi v a) (hS : Hold C0 C1 B listed w)
    (h : Hold C0 C1 B (listed.setIfInBounds i true) w → wpAnyG P md l.toArray Q C0 C1 B fuel (listed.setIfInBounds i true) (a.put oi.dst v) w) : wpAnyG P md l.toArray Q C0 C1 B (fuel + 1) listed a w :=
  wpAnyG_take1 (drop_get hd) hiB hs hf hr hu hw hQ hy hS h
theorem oneG {l rest : List Oper} {i : Nat} {o : Oper} {fuel : Nat} {listed : Array Bool} {a : Act} {w : World} (hr : Region.ready md l.toArray listed = [i]) (hd : l.drop i = o :: rest)
    (h : ∀ K' : Act → World → Prop, Later (∀ a w, Hold C0 C1 B (listed.setIfInBounds i true) w → (Hold C0 C1 B (listed.setIfInBounds i true) w → wpAnyG P md l.toArray Q C0 C1 B fuel (listed.setIfInBounds i true) a w) → K' a w) → if Region.wanted o (yielded l.toArray a.tmps) = true then Oper.wp P o a w K' Q else K' (a.put o.dst undef) w) :
    wpAnyG P md l.toArray Q C0 C1 B (fuel + 1) listed a w :=
  wpAnyG_one hr (drop_get hd) h
end
end Go.Proofs.Ytbijoeemioeejaa
