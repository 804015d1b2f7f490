/- Freezing for a call: blocks seen as less, then frozen one by one; lending for a call that only reads. -/
import Derived.Test.YtpiicncihccheaaGreatDoorXH
import Derived.Test.YtpiicncihccheaaGreatDoorXL
namespace Go.XW
open Go.RowKit
/-- Cells in which block k is frozen. -/
theorem lrz {k sz : Nat} {es : List (List V)} {xs ys : List V} (p : LR (VFz k sz es) xs ys := by
  repeat (first
    | exact LR.nil
    | refine LR.cons _ _ _ _ (VFz.all _ rfl) ?_
    | (refine LR.cons _ _ _ _ ?_ ?_
       focus
         (refine VFz.agg _ _ _ _ ?_ ?_
          repeat (first | exact VFz.agg0 | refine VFz.agg _ _ _ _ ?_ ?_ | exact VFz.all _ rfl | exact VFz.same _)
          done))
    | refine LR.cons _ _ _ _ (VFz.same _) ?_)) : LR (VFz k sz es) xs ys := p
/-- Blocks in which block k is frozen. -/
theorem hrz {k sz : Nat} {es : List (List V)} {h h2 : Hp} (p : HR (VFz k sz es) h h2 := by
  repeat (first
    | (refine HR.blk _ _ _ _ _ _ ?_ ?_
       focus
         (repeat (first | exact ER.nil | refine ER.cons _ _ _ _ ?_ ?_ | exact LR.nil | refine LR.cons _ _ _ _ (VFz.all _ rfl) ?_ | refine LR.cons _ _ _ _ (VFz.same _) ?_)
          done))
    | refine HR.skip _ _ _ ?_
    | exact HR.same _)) : HR (VFz k sz es) h h2 := p
/-- A call with block k frozen, which lies behind h1. -/
theorem VCalls.frz {P : Program} {f : FuncId} {args : List V} {k sz : Nat} {es : List (List V)} {h2 : Hp} {R : V → Hp → Prop} {RP : List PanicEntry → Hp → Prop} (h1 : Hp) (args2 : List V) (h3 : Hp)
    (hh : HR (VFz k sz es) (h1 ++ h2) h3) (ha : LR (VFz k sz es) args args2) (hc : VCalls P f args2 h3 R RP) : VCalls P f args (h1 ++ (k, .blk sz es) :: h2) R RP := VCalls.gen (HS.freeze hh) ha hc
theorem lrr : ∀ l : List V, LR VLe l l
  | [] => .nil
  | x :: l => .cons _ _ _ _ (.refl _) (lrr l)
/-- A call with blocks seen as less. -/
theorem VCalls.vws {P : Program} {f : FuncId} {args : List V} {h h2 : Hp} {R : V → Hp → Prop} {RP : List PanicEntry → Hp → Prop} (hh : HR VLe h h2) (hc : VCalls P f args h2 R RP) : VCalls P f args h R RP := VCalls.gen (HS.views hh) (lrr args) hc
mutual
/-- A view whose nils are rows without elements. -/
inductive VNl : V → V → Prop
  | refl (x : V) : VNl x x
  | nilrow (sz : Nat) : VNl (.v (.slice none 0 0)) (.row sz [])
  | agg {xs ys : List V} : VNlL xs ys → VNl (.agg xs) (.agg ys)
inductive VNlL : List V → List V → Prop
  | nil : VNlL [] []
  | cons (x y : V) (xs ys : List V) : VNl x y → VNlL xs ys → VNlL (x :: xs) (y :: ys)
end
mutual
theorem VNl.rep {F : Fro} : ∀ {x y : V} {u : Value}, VNl x y → Rep F x u → Rep F y u
  | _, _, _, .refl _, h => h
  | _, _, _, .nilrow sz, h => by cases h; exact .row0 sz none 0
  | _, _, _, .agg hl, h => by
    cases h with
    | agg _ us h2 => exact .agg _ us (VNlL.rep hl h2)
theorem VNlL.rep {F : Fro} : ∀ {xs ys : List V} {us : List Value}, VNlL xs ys → RepL F xs us → RepL F ys us
  | _, _, _, .nil, .nil => .nil
  | _, _, _, .cons _ _ _ _ h k, .cons _ _ _ _ l m => .cons _ _ _ _ (h.rep l) (k.rep m)
end
theorem HS.nils (h : Hp) : HS VNl h h := fun base F w hs => ⟨F, FLe.refl F, hs, fun v v2 hl u hr => hl.rep hr⟩
/-- What lies is left by a call that lays on nothing. -/
theorem simBeneath {base : World} {F : Fro} {h : Hp} {w w' : World} (hs : Sim base F h w) (hb : Below w.heap.size w w') : Sim base F h w' := by
  have hle : base.heap.size ≤ w.heap.size := hs.below.size
  refine ⟨hs.below.trans (hb.mono hle), ?_, ?_, hs.inj, hs.fresh, hs.nodup, ?_, ?_⟩
  · intro g o hf
    have hh := hs.fro g o hf
    rw [hb.block g (Array.getElem?_eq_some_iff.1 hh).1]
    exact hh
  · intro k g tot hr
    obtain ⟨h1, h2⟩ := hs.adr k g tot hr
    exact ⟨h1, Nat.lt_of_lt_of_le h2 hb.size⟩
  · intro k c hc
    have h3 := hs.own k c hc
    cases c with
    | blk sz es =>
      rcases h3 with h3 | ⟨g, tot, us, t, fr, a, b⟩
      · exact .inl h3
      · refine .inr ⟨g, tot, us, t, fr, a, b.1, ?_, b.2.2⟩
        rw [hb.block g (hs.adr _ _ _ a).2]
        exact b.2.1
    | obj o =>
      obtain ⟨g, tot, a, b, d⟩ := h3
      refine ⟨g, tot, a, b, ?_⟩
      rw [hb.block g (hs.adr _ _ _ a).2]
      exact d
    | lp N f r =>
      obtain ⟨g, tot, tmps, a, b, d⟩ := h3
      refine ⟨g, tot, tmps, a, b, ?_⟩
      rw [hb.block g (hs.adr _ _ _ a).2]
      exact d
    | tab g vs => exact h3
  · intro k g tot T hr hT
    rw [shape_of_heap (hb.block g (hs.adr _ _ _ hr).2)]
    exact hs.typ k g tot T hr hT
/-! ### Lending -/
mutual
/-- A view for a call that only reads: own rows are seen as what they hold. -/
inductive Ln (h : Hp) : V → V → Prop
  | v (x : Value) : Ln h (.v x) (.v x)
  | nilrow (sz : Nat) : Ln h (.v (.slice none 0 0)) (.row sz [])
  | row (sz : Nat) (es es2 : List (List V)) : LnR h es es2 → Ln h (.row sz es) (.row sz es2)
  | agg (cs cs2 : List V) : LnL h cs cs2 → Ln h (.agg cs) (.agg cs2)
  | osl (sz k off n : Nat) (es es2 : List (List V)) : (k, HO.blk sz es) ∈ h → LnR h ((es.drop off).take n) es2 → off + n ≤ es.length → Ln h (.osl sz k off n) (.row sz es2)
inductive LnL (h : Hp) : List V → List V → Prop
  | nil : LnL h [] []
  | cons (x y : V) (xs ys : List V) : Ln h x y → LnL h xs ys → LnL h (x :: xs) (y :: ys)
inductive LnR (h : Hp) : List (List V) → List (List V) → Prop
  | nil : LnR h [] []
  | cons (x y : List V) (xs ys : List (List V)) : LnL h x y → LnR h xs ys → LnR h (x :: xs) (y :: ys)
end
theorem LnL.len {h : Hp} : ∀ {xs ys : List V}, LnL h xs ys → xs.length = ys.length
  | _, _, .nil => rfl
  | _, _, .cons _ _ _ _ _ k => by simp [k.len]
theorem LnR.len {h : Hp} : ∀ {xs ys : List (List V)}, LnR h xs ys → xs.length = ys.length
  | _, _, .nil => rfl
  | _, _, .cons _ _ _ _ _ k => by simp [k.len]
section
variable {base : World} {F : Fro} {h : Hp} {w : World}
mutual
theorem Ln.rep (hs : Sim base F h w) : ∀ {x y : V}, Ln h x y → ∀ {u : Value}, Rep F x u → Rep (froOf w) y u
  | _, _, .v x, u, hr => by cases hr; exact .v x
  | _, _, .nilrow sz, u, hr => by cases hr; exact .row0 sz none 0
  | _, _, .row sz es es2 hl, u, hr => by
    cases hr with
    | row0 _ a c => cases hl; exact .row0 sz a c
    | row _ _ g off n c vs t fr h1 h2 h3 h4 => exact .row sz es2 g off n c vs t fr (hs.fro g _ h1) (by rw [← hl.len]; exact h2) h3 (LnR.rep hs hl h4)
  | _, _, .agg cs cs2 hl, u, hr => by
    cases hr with
    | agg _ us h1 => exact .agg cs2 us (LnL.rep hs hl h1)
  | _, _, .osl sz k off n es es2 hm hl hn, u, hr => by
    have hlen : es2.length = n := by rw [← hl.len]; simp; omega
    cases hr with
    | osl0 _ _ _ a =>
      have : es2 = [] := List.length_eq_zero_iff.1 hlen
      subst this
      exact .row0 sz a 0
    | osl _ _ _ _ c g tot h1 h2 h3 h4 =>
      rcases hs.own k _ hm with ⟨a, b⟩ | ⟨g', tot', us, t, fr, a, b, c', d, z, y⟩
      · rw [h1] at a; cases a
      · rw [h1] at a
        cases a
        have hy := (y.drop off).take n
        exact .row sz es2 g (off * sz) n c us t fr c' hlen.symm h2 (LnR.rep hs hl hy)
theorem LnL.rep (hs : Sim base F h w) : ∀ {xs ys : List V}, LnL h xs ys → ∀ {us : List Value}, RepL F xs us → RepL (froOf w) ys us
  | _, _, .nil, us, hr => by cases hr; exact .nil
  | _, _, .cons x y xs ys h1 h2, us, hr => by
    cases hr with
    | cons _ u _ us r1 r2 => exact .cons _ _ _ _ (Ln.rep hs h1 r1) (LnL.rep hs h2 r2)
theorem LnL.repP (hs : Sim base F h w) : ∀ {xs ys : List V}, LnL h xs ys → ∀ {us : List Value}, RepP F xs us → RepP (froOf w) ys us
  | _, _, .nil, us, hr => .nil us
  | _, _, .cons x y xs ys h1 h2, us, hr => by
    cases hr with
    | cons _ u _ us r1 r2 => exact .cons _ _ _ _ (Ln.rep hs h1 r1) (LnL.repP hs h2 r2)
theorem LnR.rep (hs : Sim base F h w) : ∀ {xs ys : List (List V)}, LnR h xs ys → ∀ {sz : Nat} {us : List Value}, RepR F sz xs us → RepR (froOf w) sz ys us
  | _, _, .nil, sz, us, hr => .nil sz us
  | _, _, .cons x y xs ys h1 h2, sz, us, hr => by
    cases hr with
    | cons _ _ _ us r0 r1 r2 => exact .cons sz y ys us (by rw [← h1.len]; exact r0) (LnL.repP hs h1 r1) (LnR.rep hs h2 r2)
end
end
mutual
/-- A view that says all of its value, and nothing of memory. -/
inductive Lt : V → Prop
  | v (x : Value) : Lt (.v x)
  | tup (xs : List V) : LtL xs → Lt (.tup xs)
  | agg (xs : List V) : LtL xs → Lt (.agg xs)
inductive LtL : List V → Prop
  | nil : LtL []
  | cons (x : V) (xs : List V) : Lt x → LtL xs → LtL (x :: xs)
end
mutual
theorem Lt.rep {F G : Fro} : ∀ {x : V}, Lt x → ∀ {u : Value}, Rep F x u → Rep G x u
  | _, .v x, u, hr => by cases hr; exact .v x
  | _, .tup xs hl, u, hr => by cases hr with | tup _ us h => exact .tup xs us (LtL.rep hl h)
  | _, .agg xs hl, u, hr => by cases hr with | agg _ us h => exact .agg xs us (LtL.rep hl h)
theorem LtL.rep {F G : Fro} : ∀ {xs : List V}, LtL xs → ∀ {us : List Value}, RepL F xs us → RepL G xs us
  | _, .nil, us, hr => by cases hr; exact .nil
  | _, .cons x xs h1 h2, us, hr => by cases hr with | cons _ u _ us r1 r2 => exact .cons _ _ _ _ (Lt.rep h1 r1) (LtL.rep h2 r2)
end
/-- The tables among the blocks. -/
def tabsOf : Hp → Hp
  | [] => []
  | (k, .tab g vs) :: h => (k, .tab g vs) :: tabsOf h
  | _ :: h => tabsOf h
theorem tabsOf_mem : ∀ {h : Hp} {k : Nat} {c : HO}, (k, c) ∈ tabsOf h → ∃ g vs, c = .tab g vs ∧ (k, c) ∈ h
  | (k', .tab g vs) :: h, k, c, hm => by
    rcases List.mem_cons.1 hm with e | e
    · cases e; exact ⟨g, vs, rfl, by simp⟩
    · obtain ⟨a, b, c1, c2⟩ := tabsOf_mem e; exact ⟨a, b, c1, List.mem_cons_of_mem _ c2⟩
  | (k', .blk _ _) :: h, k, c, hm => by obtain ⟨a, b, c1, c2⟩ := tabsOf_mem (h := h) hm; exact ⟨a, b, c1, List.mem_cons_of_mem _ c2⟩
  | (k', .obj _) :: h, k, c, hm => by obtain ⟨a, b, c1, c2⟩ := tabsOf_mem (h := h) hm; exact ⟨a, b, c1, List.mem_cons_of_mem _ c2⟩
  | (k', .lp _ _ _) :: h, k, c, hm => by obtain ⟨a, b, c1, c2⟩ := tabsOf_mem (h := h) hm; exact ⟨a, b, c1, List.mem_cons_of_mem _ c2⟩
theorem tabsOf_sub : ∀ h : Hp, (tabsOf h).Sublist h
  | [] => .slnil
  | (k, .tab g vs) :: h => .cons_cons _ (tabsOf_sub h)
  | (k, .blk _ _) :: h => .cons _ (tabsOf_sub h)
  | (k, .obj _) :: h => .cons _ (tabsOf_sub h)
  | (k, .lp _ _ _) :: h => .cons _ (tabsOf_sub h)
/-- A call that only reads, of what is lent to it: it leaves all as it was. -/
theorem VCalls.lend {P : Program} {f : FuncId} {args args2 : List V} {h : Hp} {Q : V → Prop} {RP : List PanicEntry → Hp → Prop} (ha : LnL h args args2) (hl : ∀ v, Q v → Lt v) (hc : VCalls P f args2 (tabsOf h) (fun v _ => Q v)) : VCalls P f args h (fun v h' => Q v ∧ h' = h) RP := by
  refine ⟨hc.ok, fun base F args' w hs hr => ?_⟩
  let F2 : Fro := ⟨fun g => w.heap[g]?, fun k => if k ∈ (tabsOf h).map Prod.fst then some none else none⟩
  have hb : ∃ b, ∀ k, k ∈ (tabsOf h).map Prod.fst → k < b := by
    generalize (tabsOf h).map Prod.fst = l
    induction l with
    | nil => exact ⟨0, fun k hk => by cases hk⟩
    | cons x r ih =>
      obtain ⟨b, hb⟩ := ih
      refine ⟨max b (x + 1), fun k hk => ?_⟩
      rcases List.mem_cons.1 hk with rfl | hk
      · omega
      · have := hb k hk; omega
  have hr0 : ∀ k g tot, F2.r k ≠ some (some (g, tot)) := fun k g tot he => by
    dsimp only [F2] at he
    split at he <;> cases he
  have hs2 : Sim w F2 (tabsOf h) w := {
    below := Below.refl _ _
    fro := fun _ _ h => h
    adr := fun k g tot he => absurd he (hr0 k g tot)
    inj := fun k k' g t t' he => absurd he (hr0 k g t)
    fresh := by
      obtain ⟨b, hb⟩ := hb
      refine ⟨b, fun k hk => ?_⟩
      dsimp only [F2]
      rw [if_neg]
      intro hm
      have := hb k hm
      omega
    nodup := List.Nodup.sublist ((tabsOf_sub h).map _) hs.nodup
    own := fun k c hm => by
      obtain ⟨g, vs, rfl, hm2⟩ := tabsOf_mem hm
      obtain ⟨_, t, fr, hF⟩ := hs.own k _ hm2
      refine ⟨?_, t, fr, hs.fro g _ hF⟩
      dsimp only [F2]
      rw [if_pos (List.mem_map.2 ⟨_, hm, rfl⟩)]
    typ := fun k g tot T he => absurd he (hr0 k g tot) }
  have hle : FLe (froOf w) F2 := ⟨fun _ _ h => h, fun _ _ h => by cases h⟩
  refine (hc.run w F2 args' w hs2 ((LnL.rep hs ha hr).mono hle)).mono fun e w' hbk => ?_
  cases e with
  | returned u =>
    obtain ⟨F', h', _, hs', v, hv, hq⟩ := hbk
    exact ⟨F, h, FLe.refl F, simBeneath hs hs'.below, v, (hl v hq).rep hv, hq, rfl⟩
  | panicked c => obtain ⟨F', h', _, _, hf⟩ := hbk; exact hf.elim
  | outgrown => exact hbk.elim
end Go.XW
