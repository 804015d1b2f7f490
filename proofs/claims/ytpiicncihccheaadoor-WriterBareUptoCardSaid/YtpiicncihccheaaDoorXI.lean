/- Freezing for a call: blocks seen as less, then frozen one by one. -/
import Derived.Test.YtpiicncihccheaaDoorXH
namespace Go.XW
open Go.RowKit
/-- Cells in which block k is frozen. -/
theorem lrz {k sz : Nat} {es : List (List V)} {xs ys : List V} (p : LR (VFz k sz es) xs ys := by
  repeat (first
    | exact LR.nil
    | refine LR.cons _ _ _ _ (VFz.all _ rfl) ?_
    | (refine LR.cons _ _ _ _ ?_ ?_
       focus
         (refine VFz.agg _ _ _ _ ?_ ?_
          repeat (first | exact VFz.agg0 | refine VFz.agg _ _ _ _ ?_ ?_ | exact VFz.all _ rfl | exact VFz.same _)
          done))
    | refine LR.cons _ _ _ _ (VFz.same _) ?_)) : LR (VFz k sz es) xs ys := p
/-- Blocks in which block k is frozen. -/
theorem hrz {k sz : Nat} {es : List (List V)} {h h2 : Hp} (p : HR (VFz k sz es) h h2 := by
  repeat (first
    | (refine HR.blk _ _ _ _ _ _ ?_ ?_
       focus
         (repeat (first | exact ER.nil | refine ER.cons _ _ _ _ ?_ ?_ | exact LR.nil | refine LR.cons _ _ _ _ (VFz.all _ rfl) ?_ | refine LR.cons _ _ _ _ (VFz.same _) ?_)
          done))
    | refine HR.skip _ _ _ ?_
    | exact HR.same _)) : HR (VFz k sz es) h h2 := p
/-- A call with block k frozen, which lies behind h1. -/
theorem VCalls.frz {P : Program} {f : FuncId} {args : List V} {k sz : Nat} {es : List (List V)} {h2 : Hp} {R : V → Hp → Prop} {RP : List PanicEntry → Hp → Prop} (h1 : Hp) (args2 : List V) (h3 : Hp)
    (hh : HR (VFz k sz es) (h1 ++ h2) h3) (ha : LR (VFz k sz es) args args2) (hc : VCalls P f args2 h3 R RP) : VCalls P f args (h1 ++ (k, .blk sz es) :: h2) R RP := VCalls.gen (HS.freeze hh) ha hc
theorem lrr : ∀ l : List V, LR VLe l l
  | [] => .nil
  | x :: l => .cons _ _ _ _ (.refl _) (lrr l)
/-- A call with blocks seen as less. -/
theorem VCalls.vws {P : Program} {f : FuncId} {args : List V} {h h2 : Hp} {R : V → Hp → Prop} {RP : List PanicEntry → Hp → Prop} (hh : HR VLe h h2) (hc : VCalls P f args h2 R RP) : VCalls P f args h R RP := VCalls.gen (HS.views hh) (lrr args) hc
mutual
/-- A view whose nils are rows without elements. -/
inductive VNl : V → V → Prop
  | refl (x : V) : VNl x x
  | nilrow (sz : Nat) : VNl (.v (.slice none 0 0)) (.row sz [])
  | agg {xs ys : List V} : VNlL xs ys → VNl (.agg xs) (.agg ys)
inductive VNlL : List V → List V → Prop
  | nil : VNlL [] []
  | cons (x y : V) (xs ys : List V) : VNl x y → VNlL xs ys → VNlL (x :: xs) (y :: ys)
end
mutual
theorem VNl.rep {F : Fro} : ∀ {x y : V} {u : Value}, VNl x y → Rep F x u → Rep F y u
  | _, _, _, .refl _, h => h
  | _, _, _, .nilrow sz, h => by cases h; exact .row0 sz none 0
  | _, _, _, .agg hl, h => by
    cases h with
    | agg _ us h2 => exact .agg _ us (VNlL.rep hl h2)
theorem VNlL.rep {F : Fro} : ∀ {xs ys : List V} {us : List Value}, VNlL xs ys → RepL F xs us → RepL F ys us
  | _, _, _, .nil, .nil => .nil
  | _, _, _, .cons _ _ _ _ h k, .cons _ _ _ _ l m => .cons _ _ _ _ (h.rep l) (k.rep m)
end
theorem HS.nils (h : Hp) : HS VNl h h := fun base F w hs => ⟨F, FLe.refl F, hs, fun v v2 hl u hr => hl.rep hr⟩
end Go.XW
