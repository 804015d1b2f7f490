/- Steps of a walk. -/
import Derived.Test.YtpiicncihccheaaGreatDoorXG
namespace Go.XW
open Go.RowKit

/-- A block that is nowhere yet, its name of a type. -/
theorem VCalls.name {P : Program} {f : FuncId} {args : List V} {h : Hp} {R : V → Hp → Prop} {RP : List PanicEntry → Hp → Prop} (sz c : Nat) (hk : ∀ k, nameT k = some c → VCalls P f args ((k, .blk sz []) :: h) R RP) : VCalls P f args h R RP := by
  obtain ⟨k0, _, hk0⟩ := nameT_ex 0 c
  refine ⟨(hk k0 hk0).ok, fun base F args' w hs ha => ?_⟩
  obtain ⟨F', k, f0, f1, f2⟩ := Sim.fresh_nameT (h1 := []) hs sz c
  exact ((hk k f0).run base F' args' w f2 (ha.mono f1)).mono fun e w' hb => by
    cases e with
    | returned u => exact hb.from f1
    | panicked c => exact hb.from f1
    | outgrown => exact hb
/-- A contract of a callee, at a call. -/
theorem YCalls.use {P : Program} {k : Nat} {args : List V} {h : Hp} {R K : V → Hp → Prop} {KP : List PanicEntry → Hp → Prop} (hc : YCalls P k args h R) (hk : ∀ v h', R v h' → K v h') : YCalls P k args h K KP :=
  fun base F args' w g tot hs ha hr => (hc base F args' w g tot hs ha hr).mono hk fun _ _ h => h.elim
theorem YCalls.perm {P : Program} {k : Nat} {args : List V} {h h2 : Hp} {R : V → Hp → Prop} {KP : List PanicEntry → Hp → Prop} (hl : h2.Perm h) (hc : YCalls P k args h2 R KP) : YCalls P k args h R KP :=
  fun base F args' w g tot hs ha hr => hc base F args' w g tot (hs.perm hl) ha hr
theorem VCalls.use {P : Program} {f : FuncId} {args : List V} {h : Hp} {R K : V → Hp → Prop} {KP : List PanicEntry → Hp → Prop} (hc : VCalls P f args h R) (hk : ∀ v h', R v h' → K v h') : VCalls P f args h K KP := hc.mono hk fun _ _ h => h.elim

/-! ### Rules for the heads -/
theorem br_t {b : Bool} {A B : Prop} (hb : b = true) (h : A) : Br b A B := ⟨fun _ => h, fun h2 => by rw [hb] at h2; cases h2⟩
theorem br_f {b : Bool} {A B : Prop} (hb : b = false) (h : B) : Br b A B := ⟨fun h2 => (by rw [hb] at h2; cases h2), fun _ => h⟩
theorem br_true {A B : Prop} (h : A) : Br true A B := ⟨fun _ => h, fun h => by cases h⟩
theorem br_false {A B : Prop} (h : B) : Br false A B := ⟨fun h => (by cases h), fun _ => h⟩
theorem br_ntrue {A B : Prop} (h : B) : Br (!true) A B := ⟨fun h => (by cases h), fun _ => h⟩
theorem br_nfalse {A B : Prop} (h : A) : Br (!false) A B := ⟨fun _ => h, fun h => by cases h⟩
theorem br_n1 {A B : Prop} (h : A) : Br (negB false true) A B := br_true h
theorem br_n2 {A B : Prop} (h : B) : Br (negB false false) A B := br_false h
theorem br_n3 {A B : Prop} (h : B) : Br (negB true true) A B := br_false h
theorem br_n4 {A B : Prop} (h : A) : Br (negB true false) A B := br_true h
theorem br_d {p : Prop} [Decidable p] {A B : Prop} (ht : p → A) (hf : ¬ p → B) : Br (decide p) A B := ⟨fun h => ht (of_decide_eq_true h), fun h => hf (of_decide_eq_false h)⟩
theorem br_nd {p : Prop} [Decidable p] {A B : Prop} (ht : ¬ p → A) (hf : p → B) : Br (!decide p) A B := ⟨fun h => ht (by simpa using h), fun h => hf (by simpa using h)⟩
theorem br_dt {p : Prop} [Decidable p] {A B : Prop} (hp : p) (h : A) : Br (decide p) A B := br_t (decide_eq_true hp) h
theorem br_df {p : Prop} [Decidable p] {A B : Prop} (hp : ¬ p) (h : B) : Br (decide p) A B := br_f (decide_eq_false hp) h
theorem br_ndt {p : Prop} [Decidable p] {A B : Prop} (hp : ¬ p) (h : A) : Br (!decide p) A B := br_t (by simp [hp]) h
theorem br_ndf {p : Prop} [Decidable p] {A B : Prop} (hp : p) (h : B) : Br (!decide p) A B := br_f (by simp [hp]) h
theorem hook_now {id : Nat} {I : Fr → Hp → Prop} {f : Fr} {h : Hp} (hi : I f h) : Hook id I f h := ⟨.now _ _ hi⟩
theorem sq_dup {n : Nat} {A : (Fr → Hp → Prop) → Prop} {C : Fr → Hp → Prop} (h : A C) : SeqP n A C := .dup h
/-- A number at which a walk is to stop. -/
structure Stp (n : Nat) : Prop where
theorem sq_not {n : Nat} {A : (Fr → Hp → Prop) → Prop} {C : Fr → Hp → Prop} {stop : Nat} (_ : Stp stop) (_ : Nat.beq n stop = false) (h : A C) : SeqP n A C := .dup h
theorem hook_not {id : Nat} {I : Fr → Hp → Prop} {f : Fr} {h : Hp} {stop : Nat} (_ : Stp stop) (_ : Nat.beq id stop = false) (hi : I f h) : Hook id I f h := ⟨.now _ _ hi⟩

theorem ix_nat {n : Nat} {K : Nat → Prop} (h : K n) : Ix (n : Int) K := ⟨n, rfl, h⟩
theorem ix_zero {K : Nat → Prop} (h : K 0) : Ix 0 K := ⟨0, rfl, h⟩
theorem ix_one {K : Nat → Prop} (h : K 1) : Ix 1 K := ⟨1, rfl, h⟩
theorem ix_add1 {n : Nat} {K : Nat → Prop} (h : K (n + 1)) : Ix ((n : Int) + 1) K := ⟨n + 1, by omega, h⟩
theorem ix_raw {i : Int} {K : Nat → Prop} (h0 : 0 ≤ i) (h : K i.toNat) : Ix i K := ⟨i.toNat, by omega, h⟩
theorem ix_of {i : Int} {K : Nat → Prop} (n : Nat) (h0 : i = n) (h : K n) : Ix i K := ⟨n, h0, h⟩

theorem len_ints {k : IntKind} {ns : List Int} {K : Nat → Prop} (h : K ns.length) : Len (rInts k ns) K := ⟨_, rInts_length _ _, h⟩
theorem len_map {α : Type} {f : α → List V} {xs : List α} {K : Nat → Prop} (h : K xs.length) : Len (xs.map f) K := ⟨_, List.length_map _, h⟩
theorem len_nil {K : Nat → Prop} (h : K 0) : Len [] K := ⟨_, rfl, h⟩
theorem len_raw {es : List (List V)} {K : Nat → Prop} (h : K es.length) : Len es K := ⟨_, rfl, h⟩

theorem at_head {e : List V} {r : List (List V)} {K : List V → Prop} (h : K e) : At (e :: r) 0 K := ⟨e, rfl, h⟩
theorem at_ints {k : IntKind} {ns : List Int} {i : Nat} {K : List V → Prop} (hi : i < ns.length) (h : K [.v (.int k (ns.getD i 0))]) : At (rInts k ns) i K :=
  ⟨_, by simp [rInts, List.getD, hi], h⟩
theorem at_set {k : IntKind} {ns : List Int} {u : Int} {i : Nat} {K : List V → Prop} (hi : i < ns.length) (h : K [.v (.int k u)]) : At (rInts k (ns.set i u)) i K :=
  ⟨_, by simp [rInts, hi], h⟩
theorem at_set_ne {k : IntKind} {ns : List Int} {u : Int} {i j : Nat} {K : List V → Prop} (hi : i < ns.length) (hne : j ≠ i) (h : K [.v (.int k (ns.getD i 0))]) : At (rInts k (ns.set j u)) i K :=
  ⟨_, by unfold rInts; rw [List.map_set, List.getElem?_set_ne hne]; simp [List.getD, hi], h⟩
theorem at_map {α : Type} [Inhabited α] {f : α → List V} {xs : List α} {i : Nat} {K : List V → Prop} (hi : i < xs.length) (h : K (f (xs.getD i default))) : At (xs.map f) i K :=
  ⟨_, by simp [List.getD, hi], h⟩
theorem at_map' {α : Type} {f : α → List V} {xs : List α} {i : Nat} {K : List V → Prop} (hi : i < xs.length) (h : K (f xs[i])) : At (xs.map f) i K :=
  ⟨_, by simp [hi], h⟩

theorem sub_ints {k : IntKind} {ns : List Int} {i j : Nat} {K : List (List V) → Prop} (h : K (rInts k ((ns.take j).drop i))) : Sub (rInts k ns) i j K := ⟨_, by simp [rInts, List.map_take, List.map_drop], h⟩
theorem sub_map {α : Type} {f : α → List V} {xs : List α} {i j : Nat} {K : List (List V) → Prop} (h : K (((xs.take j).drop i).map f)) : Sub (xs.map f) i j K := ⟨_, by simp [List.map_take, List.map_drop], h⟩
theorem sub_raw {es : List (List V)} {i j : Nat} {K : List (List V) → Prop} (h : K ((es.take j).drop i)) : Sub es i j K := ⟨_, rfl, h⟩

theorem set_head {e0 e : List V} {r : List (List V)} {K : List (List V) → Prop} (h : K (e :: r)) : SetE (e0 :: r) 0 e K := ⟨_, rfl, h⟩
theorem set_ints {k : IntKind} {ns : List Int} {i : Nat} {x : Int} {K : List (List V) → Prop} (h : K (rInts k (ns.set i x))) : SetE (rInts k ns) i [.v (.int k x)] K := ⟨_, by simp [rInts, List.map_set], h⟩
theorem set_set {k : IntKind} {ns : List Int} {i : Nat} {u x : Int} {K : List (List V) → Prop} (h : K (rInts k (ns.set i x))) : SetE (rInts k (ns.set i u)) i [.v (.int k x)] K := ⟨_, by simp [rInts, List.map_set], h⟩
theorem set_raw {es : List (List V)} {i : Nat} {e : List V} {K : List (List V) → Prop} (h : K (es.set i e)) : SetE es i e K := ⟨_, rfl, h⟩

theorem rInts_one (k : IntKind) (ns : List Int) : ∀ e ∈ rInts k ns, e.all V.one = true := by
  intro e he
  obtain ⟨n, _, rfl⟩ := List.mem_map.1 he
  rfl
/-- One number behind others. -/
theorem app_int {k : IntKind} {ns : List Int} {x : Int} {n : Nat} {K : List (List V) → Nat → Prop} (hn : ns.length = n) (h : K (rInts k (ns ++ [x])) (n + 1)) : AppE (rInts k ns) [[.v (.int k x)]] n K :=
  ⟨_, _, by rw [rInts_length]; exact hn, by simp [rInts], rfl, (fun e he => by simp at he; subst he; rfl), h⟩
theorem app_ints {k : IntKind} {ns ms : List Int} {n : Nat} {K : List (List V) → Nat → Prop} (hn : ns.length = n) (h : K (rInts k (ns ++ ms)) (n + ms.length)) : AppE (rInts k ns) (rInts k ms) n K :=
  ⟨_, _, by rw [rInts_length]; exact hn, by simp [rInts], by rw [rInts_length], rInts_one k ms, h⟩
theorem app_ints0 {k : IntKind} {ms : List Int} {K : List (List V) → Nat → Prop} (h : K (rInts k ms) ms.length) : AppE [] (rInts k ms) 0 K :=
  ⟨_, _, rfl, by simp, by rw [rInts_length, Nat.zero_add], rInts_one k ms, h⟩
theorem app_int0 {k : IntKind} {x : Int} {K : List (List V) → Nat → Prop} (h : K (rInts k [x]) 1) : AppE [] [[.v (.int k x)]] 0 K :=
  ⟨_, _, rfl, rfl, rfl, (fun e he => by simp at he; subst he; rfl), h⟩
theorem app_intl {k : IntKind} {y x : Int} {K : List (List V) → Nat → Prop} (h : K (rInts k [y, x]) 2) : AppE [[.v (.int k y)]] [[.v (.int k x)]] 1 K :=
  ⟨_, _, rfl, rfl, rfl, (fun e he => by simp at he; subst he; rfl), h⟩
/-- One element behind others. -/
theorem app_one {es : List (List V)} {e : List V} {n : Nat} {K : List (List V) → Nat → Prop} (hn : es.length = n) (ho : e.all V.one = true) (h : K (es ++ [e]) (n + 1)) : AppE es [e] n K :=
  ⟨_, _, hn, rfl, rfl, (fun e' he => by simp at he; subst he; exact ho), h⟩
theorem app_raw {es es2 : List (List V)} {n : Nat} {K : List (List V) → Nat → Prop} (hn : es.length = n) (ho : ∀ e ∈ es2, e.all V.one = true) (h : K (es ++ es2) (n + es2.length)) : AppE es es2 n K := ⟨_, _, hn, rfl, rfl, ho, h⟩

theorem mk_ints {k : IntKind} {n : Nat} {x : Int} {K : List (List V) → Prop} (h : K (rInts k (List.replicate n x))) : Mk n [.v (.int k x)] K := ⟨_, by simp [rInts], h⟩
theorem mk_zero {zs : List V} {K : List (List V) → Prop} (h : K []) : Mk 0 zs K := ⟨_, rfl, h⟩
theorem mk_raw {n : Nat} {zs : List V} {K : List (List V) → Prop} (h : K (List.replicate n zs)) : Mk n zs K := ⟨_, rfl, h⟩
theorem byt_ints {ns : List Int} {K : List Int → Prop} (h : K ns) : Byt (rInts .u8 ns) K := ⟨ns, rfl, h⟩
theorem rns_one {x : Int} {K : List Int → Prop} (h : K [x]) : Rns [[.v (.int .i32 x)]] K := ⟨[x], rfl, h⟩
theorem byt_one {x : Int} {K : List Int → Prop} (h : K [x]) : Byt [[.v (.int .u8 x)]] K := ⟨[x], rfl, h⟩
theorem nm_raw {a : Nat} {K : Nat → Prop} (h : K a) : Nm a K := ⟨a, rfl, h⟩
theorem nm_z {a : Nat} {K : Nat → Prop} (h : K a) : Nm (0 + a) K := ⟨a, Nat.zero_add _, h⟩
theorem nm_s {a : Nat} {K : Nat → Prop} (h : K a) : Nm (a - 0) K := ⟨a, rfl, h⟩
theorem new_k {C K : Nat → Prop} (h : ∀ k, K k) : NewC C K := ⟨fun k _ => h k⟩
theorem new_t {C K : Nat → Prop} (h : ∀ k, C k → K k) : NewC C K := ⟨h⟩

/-! ### Loops and joins -/
/-- What a frame is to hold, slot by slot. -/
inductive Fits2 (f : Fr) : Fr → Prop
  | nil : Fits2 f []
  | cons (n : Nat) (u v : V) (r : Fr) : look n f = some u → u = v → Fits2 f r → Fits2 f ((n, v) :: r)
  | le (n : Nat) (u v : V) (r : Fr) : look n f = some u → VLe u v → Fits2 f r → Fits2 f ((n, v) :: r)
theorem Fits2.sub {f f2 : Fr} (h : Fits2 f f2) : Sub1 f f2 := by
  induction h with
  | nil => intro n v hn; cases hn
  | cons m u v r hl hu _ ih =>
    intro n w hn
    rw [look_cons] at hn
    split at hn
    · rename_i he; subst he; cases hn; exact ⟨u, hl, hu ▸ .refl _⟩
    · exact ih n w hn
  | le m u v r hl hu _ ih =>
    intro n w hn
    rw [look_cons] at hn
    split at hn
    · rename_i he; subst he; cases hn; exact ⟨u, hl, hu⟩
    · exact ih n w hn
/-- The slots of a frame that are not written anew. -/
def keep (ns : List Nat) : Fr → Fr
  | [] => []
  | (n, v) :: r => bif ns.any (Nat.beq n) then keep ns r else (n, v) :: keep (n :: ns) r
theorem wk_fit {I : Fr → Hp → Prop} {f f2 : Fr} {h h2 : Hp} (hf : Fits2 f f2) (hh : h = h2) (hi : I f2 h2) : Wk I f h := by
  subst hh; exact .sub f f2 h hf.sub (.now _ _ hi)
theorem wk_fitl {I : Fr → Hp → Prop} {f f2 : Fr} {h h2 : Hp} (hf : Fits2 f f2) (hh : h2.Sublist h) (hi : I f2 h2) : Wk I f h :=
  .less f h h2 hh (.sub f f2 h2 hf.sub (.now _ _ hi))

/-- A loop: its frames and blocks by a family. -/
theorem lp {W : (Ex → Fr → Hp → Prop) → Fr → Hp → Prop} {Q : Ex → Fr → Hp → Prop} {f : Fr} {h : Hp} {α : Type} (fr : α → Fr) (hp : α → Hp) (inv : α → Prop) (μ : α → Nat)
    (h0 : Wk (fun f h => ∃ x, inv x ∧ f = fr x ∧ h = hp x) f h) (hs : ∀ x, inv x → W (withN (Wk fun f h => ∃ y, (inv y ∧ μ y < μ x) ∧ f = fr y ∧ h = hp y) Q) (fr x) (hp x)) : LoopP W Q f h := by
  refine .mk (fun x f h => inv x ∧ f = fr x ∧ h = hp x) μ h0 ?_
  rintro x f h ⟨hi, rfl, rfl⟩
  have := hs x hi
  have he : (Wk fun f h => ∃ y, (inv y ∧ f = fr y ∧ h = hp y) ∧ μ y < μ x) = (Wk fun f h => ∃ y, (inv y ∧ μ y < μ x) ∧ f = fr y ∧ h = hp y) := by
    funext f h
    exact propext ⟨fun hk => hk.mono fun f h ⟨y, ⟨a, b, c⟩, d⟩ => ⟨y, ⟨a, d⟩, b, c⟩, fun hk => hk.mono fun f h ⟨y, ⟨a, d⟩, b, c⟩ => ⟨y, ⟨a, b, c⟩, d⟩⟩
  rw [he]
  exact this
/-- Ways that come together, by a family. -/
theorem jn {n : Nat} {A : (Fr → Hp → Prop) → Prop} {C : Fr → Hp → Prop} {α : Type} (fr : α → Fr) (hp : α → Hp) (inv : α → Prop)
    (hb : A (Wk fun f h => ∃ x, inv x ∧ f = fr x ∧ h = hp x)) (hc : ∀ x, inv x → C (fr x) (hp x)) : SeqP n A C :=
  .join _ hb fun f h ⟨x, hi, hf, hh⟩ => by subst hf; subst hh; exact hc x hi

/-! ### Steps, as far as no choice is to be made -/
theorem side {p : Prop} (h : p := by first | omega | assumption | (simp only [List.length_drop, List.length_take, List.length_append, List.length_cons, List.length_nil, List.length_set, List.length_replicate, List.length_map, Int.toNat_natCast] <;> omega) | (refine And.intro ?_ ?_ <;> omega) | rfl) : p := h
theorem lit {p : Prop} (h : p := by rfl) : p := h
structure Hd (q : Prop) : Prop where
  out : q
theorem run {p q : Prop} (k : q) (h : Hd q → p := by
  intro hk
  repeat (conv => whnf
          first
          | refine hook_now ?_
          | refine sq_dup ?_
          | (refine Sd.mk ?_ ?_; focus (first | omega | assumption | (simp only [List.length_drop, List.length_take, List.length_append, List.length_cons, List.length_nil, List.length_set, List.length_replicate, List.length_map, Int.toNat_natCast] <;> omega) | rfl))
          | (refine Wr.inn ?_ ?_; focus (refine And.intro ?_ ?_ <;> omega))
          | (with_reducible refine br_true ?_)
          | (with_reducible refine br_false ?_)
          | (with_reducible refine br_ntrue ?_)
          | (with_reducible refine br_nfalse ?_)
          | (with_reducible refine br_n1 ?_) | (with_reducible refine br_n2 ?_) | (with_reducible refine br_n3 ?_) | (with_reducible refine br_n4 ?_)
          | (refine br_dt ?_ ?_; focus (first | assumption | omega))
          | (refine br_df ?_ ?_; focus (first | assumption | omega))
          | (refine br_ndt ?_ ?_; focus (first | assumption | omega))
          | (refine br_ndf ?_ ?_; focus (first | assumption | omega))
          | (with_reducible refine ix_nat ?_) | (with_reducible refine ix_zero ?_) | (with_reducible refine ix_one ?_) | (with_reducible refine ix_add1 ?_) | (refine ix_raw ?_ ?_; focus omega)
          | (with_reducible refine len_ints ?_) | (with_reducible refine len_map ?_) | (with_reducible refine len_nil ?_) | refine len_raw ?_
          | (with_reducible refine at_head ?_)
          | ((with_reducible refine at_set ?_ ?_); focus (first | omega | assumption))
          | ((with_reducible refine at_set_ne ?_ ?_ ?_); (focus (first | omega | assumption)); (focus omega))
          | ((with_reducible refine at_ints ?_ ?_); focus (first | omega | assumption))
          | (with_reducible refine nm_z ?_) | (with_reducible refine nm_s ?_) | refine nm_raw ?_
          | (with_reducible refine sub_ints ?_) | (with_reducible refine sub_map ?_) | refine sub_raw ?_
          | (refine Dv.nn ?_ ?_ ?_; (focus omega); (focus omega))
          | (refine Md.nn ?_ ?_ ?_; (focus omega); (focus omega))
          | (with_reducible refine Has.here _ _ ?_) | (with_reducible refine Has.there _ _ ?_)
          | (with_reducible refine Upd.here _ _ _ ?_) | (with_reducible refine Upd.there _ _ _ ?_)
          | (with_reducible refine set_head ?_) | (with_reducible refine set_set ?_) | (with_reducible refine set_ints ?_)
          | ((with_reducible refine app_int ?_ ?_); focus (first | omega | assumption | rfl)) | (with_reducible refine app_int0 ?_) | (with_reducible refine app_intl ?_) | (with_reducible refine app_ints0 ?_) | ((with_reducible refine app_ints ?_ ?_); focus (first | omega | assumption | rfl))
          | ((with_reducible refine app_one ?_ rfl ?_); focus (first | omega | assumption | rfl))
          | (with_reducible refine mk_zero ?_) | (with_reducible refine mk_ints ?_) | (with_reducible refine byt_ints ?_) | (with_reducible refine byt_one ?_) | (with_reducible refine rns_one ?_)
          | (with_reducible refine UpdO.here _ _ _ ?_) | (with_reducible refine UpdO.there _ _ _ ?_)
          | (with_reducible refine Del.here _ _ _ ?_) | (with_reducible refine Del.there _ _ _ ?_)
          | (refine Eq4.mk ⟨rfl, rfl, rfl, rfl⟩ ?_))
  try (conv => whnf)
  exact hk.out) : p := h ⟨k⟩
theorem runto (stop : Nat) {p q : Prop} (k : q) (h : Stp stop → Hd q → p := by
  intro hs hk
  repeat (conv => whnf
          first
          | (refine hook_not hs ?_ ?_; focus rfl)
          | (refine sq_not hs ?_ ?_; focus rfl)
          | (refine Sd.mk ?_ ?_; focus (first | omega | assumption | (simp only [List.length_drop, List.length_take, List.length_append, List.length_cons, List.length_nil, List.length_set, List.length_replicate, List.length_map, Int.toNat_natCast] <;> omega) | rfl))
          | (refine Wr.inn ?_ ?_; focus (refine And.intro ?_ ?_ <;> omega))
          | (with_reducible refine br_true ?_)
          | (with_reducible refine br_false ?_)
          | (with_reducible refine br_ntrue ?_)
          | (with_reducible refine br_nfalse ?_)
          | (with_reducible refine br_n1 ?_) | (with_reducible refine br_n2 ?_) | (with_reducible refine br_n3 ?_) | (with_reducible refine br_n4 ?_)
          | (refine br_dt ?_ ?_; focus (first | assumption | omega))
          | (refine br_df ?_ ?_; focus (first | assumption | omega))
          | (refine br_ndt ?_ ?_; focus (first | assumption | omega))
          | (refine br_ndf ?_ ?_; focus (first | assumption | omega))
          | (with_reducible refine ix_nat ?_) | (with_reducible refine ix_zero ?_) | (with_reducible refine ix_one ?_) | (with_reducible refine ix_add1 ?_) | (refine ix_raw ?_ ?_; focus omega)
          | (with_reducible refine len_ints ?_) | (with_reducible refine len_map ?_) | (with_reducible refine len_nil ?_) | refine len_raw ?_
          | (with_reducible refine at_head ?_)
          | ((with_reducible refine at_set ?_ ?_); focus (first | omega | assumption))
          | ((with_reducible refine at_set_ne ?_ ?_ ?_); (focus (first | omega | assumption)); (focus omega))
          | ((with_reducible refine at_ints ?_ ?_); focus (first | omega | assumption))
          | (with_reducible refine nm_z ?_) | (with_reducible refine nm_s ?_) | refine nm_raw ?_
          | (with_reducible refine sub_ints ?_) | (with_reducible refine sub_map ?_) | refine sub_raw ?_
          | (refine Dv.nn ?_ ?_ ?_; (focus omega); (focus omega))
          | (refine Md.nn ?_ ?_ ?_; (focus omega); (focus omega))
          | (with_reducible refine Has.here _ _ ?_) | (with_reducible refine Has.there _ _ ?_)
          | (with_reducible refine Upd.here _ _ _ ?_) | (with_reducible refine Upd.there _ _ _ ?_)
          | (with_reducible refine set_head ?_) | (with_reducible refine set_set ?_) | (with_reducible refine set_ints ?_)
          | ((with_reducible refine app_int ?_ ?_); focus (first | omega | assumption | rfl)) | (with_reducible refine app_int0 ?_) | (with_reducible refine app_intl ?_) | (with_reducible refine app_ints0 ?_) | ((with_reducible refine app_ints ?_ ?_); focus (first | omega | assumption | rfl))
          | ((with_reducible refine app_one ?_ rfl ?_); focus (first | omega | assumption | rfl))
          | (with_reducible refine mk_zero ?_) | (with_reducible refine mk_ints ?_) | (with_reducible refine byt_ints ?_) | (with_reducible refine byt_one ?_) | (with_reducible refine rns_one ?_)
          | (with_reducible refine UpdO.here _ _ _ ?_) | (with_reducible refine UpdO.there _ _ _ ?_)
          | (with_reducible refine Del.here _ _ _ ?_) | (with_reducible refine Del.there _ _ _ ?_)
          | (refine Eq4.mk ⟨rfl, rfl, rfl, rfl⟩ ?_))
  try (conv => whnf)
  exact hk.out) : p := h ⟨⟩ ⟨k⟩
theorem ret1 {R : V → Hp → Prop} {v : V} {x : Nat × HO} {h : Hp} (hr : Ret R v h) : Ret R v (x :: h) := .less _ _ _ (List.sublist_cons_self _ _) hr
theorem retv {R : V → Hp → Prop} {v : V} {h : Hp} (hr : R v h) : Ret R v h := .now _ _ hr
/-- A number's view, by its number. -/
theorem vint_eq {k : IntKind} {a b : Int} (h : a = b) : V.v (.int k a) = V.v (.int k b) := by rw [h]
theorem vosl_eq {sz k o o' n n' : Nat} (h : o = o') (h2 : n = n') : V.osl sz k o n = V.osl sz k o' n' := by rw [h, h2]
/-- Slot by slot. -/
theorem fits {f f2 : Fr} (h : Fits2 f f2 := by
  repeat (first
    | exact Fits2.nil
    | (refine Fits2.cons _ _ _ _ rfl ?_ ?_
       focus (first | rfl | (refine vint_eq ?_; first | omega | (dsimp only; omega)) | (refine vosl_eq ?_ ?_ <;> first | omega | (dsimp only; omega) | (simp only [List.length_append, List.length_cons, List.length_nil, List.length_set, List.length_map, List.length_replicate] <;> omega))))
    | (refine Fits2.le _ _ _ _ rfl ?_ ?_
       focus (first | exact VLe.nilosl _ _ | exact VLe.nilrow _ | exact VLe.any _)))) : Fits2 f f2 := h
theorem wkx {α : Type} {fr : α → Fr} {hp : α → Hp} {inv : α → Prop} {f : Fr} {h : Hp} (x : α) (hi : inv x) (hf : Fits2 f (fr x)) (hh : h = hp x) : Wk (fun f h => ∃ x, inv x ∧ f = fr x ∧ h = hp x) f h :=
  wk_fit hf hh ⟨x, hi, rfl, rfl⟩
/-- With blocks let go. -/
theorem wkl {α : Type} {fr : α → Fr} {hp : α → Hp} {inv : α → Prop} {f : Fr} {h : Hp} (x : α) (hi : inv x) (hf : Fits2 f (fr x)) (hh : (hp x).Sublist h) : Wk (fun f h => ∃ x, inv x ∧ f = fr x ∧ h = hp x) f h :=
  wk_fitl hf hh ⟨x, hi, rfl, rfl⟩
/-- Blocks seen as less, cell by cell. -/
theorem hrs {h h2 : Hp} (p : HR VLe h h2 := by
  repeat (first
    | exact HR.same _
    | refine HR.skip _ _ _ ?_
    | refine HR.blk _ _ _ _ _ _ ?_ ?_
    | exact ER.nil
    | refine ER.cons _ _ _ _ ?_ ?_
    | exact LR.nil
    | refine LR.cons _ _ _ _ (VLe.refl _) ?_
    | refine LR.cons _ _ _ _ (VLe.nilosl _ _) ?_
    | refine LR.cons _ _ _ _ (VLe.nilrow _) ?_
    | refine LR.cons _ _ _ _ (VLe.any _) ?_)) : HR VLe h h2 := p
theorem wkh {I : Fr → Hp → Prop} {f : Fr} {h h2 : Hp} (hh : HR VLe h h2) (hk : Wk I f h2) : Wk I f h := .gen VLe f f h h2 (HS.views hh) (fun _ v hl => ⟨v, hl, .refl _⟩) hk
theorem wkn {I : Fr → Hp → Prop} {f : Fr} {h : Hp} (sz : Nat) (hk : ∀ k, Wk I f ((k, .blk sz []) :: h)) : Wk I f h := .name sz f h hk
/-- A call with a block frozen. -/
theorem VCalls.fz {P : Program} {f : FuncId} {args args2 : List V} {k sz : Nat} {es : List (List V)} {h : Hp} {R : V → Hp → Prop} {RP : List PanicEntry → Hp → Prop} (h1 : Hp) (ha : LR (VFz k sz es) args args2) (hc : VCalls P f args2 (h1 ++ h) R RP) : VCalls P f args (h1 ++ (k, .blk sz es) :: h) R RP :=
  VCalls.gen (HS.freeze (.same _)) ha hc
/-- The foremost block is frozen for a call. -/
theorem VCalls.fz0 {P : Program} {f : FuncId} {args args2 : List V} {k sz : Nat} {es : List (List V)} {h : Hp} {R : V → Hp → Prop} {RP : List PanicEntry → Hp → Prop} (ha : LR (VFz k sz es) args args2) (hc : VCalls P f args2 h R RP) : VCalls P f args ((k, .blk sz es) :: h) R RP := VCalls.fz [] ha hc
/-- The foremost block's first elements alone. -/
theorem HS.cut {k sz : Nat} {es : List (List V)} {h : Hp} (m : Nat) : HS VLe ((k, .blk sz es) :: h) ((k, .blk sz (es.take m)) :: h) := fun base F w hs => by
  refine ⟨F, FLe.refl F, ⟨hs.below, hs.fro, hs.adr, hs.inj, hs.fresh, by have := hs.nodup; simpa using this, ?_, hs.typ⟩, fun v v2 hl u hr => hr.weak hl⟩
  intro k' c hm
  rcases List.mem_cons.1 hm with h1 | h1
  · cases h1
    rcases hs.own k (.blk sz es) (by simp) with ⟨a, b⟩ | ⟨g, tot, us, t, fr, a, b, c, d, z, y⟩
    · subst b; exact .inl ⟨a, by simp⟩
    · exact .inr ⟨g, tot, us, t, fr, a, b, c, d, z, y.take m⟩
  · exact hs.own k' c (List.mem_cons_of_mem _ h1)
theorem ret_cut {R : V → Hp → Prop} {v : V} {k sz : Nat} {es : List (List V)} {h : Hp} (m : Nat) (hr : Ret R v ((k, .blk sz (es.take m)) :: h)) : Ret R v ((k, .blk sz es) :: h) := .gen VLe _ _ _ _ (HS.cut m) (.refl _) hr
/-- The foremost block is frozen as the call comes back. -/
theorem ret_fz {R : V → Hp → Prop} {v v2 : V} {k sz : Nat} {es : List (List V)} {h : Hp} (hz : VFz k sz es v v2) (hr : Ret R v2 h) : Ret R v ((k, .blk sz es) :: h) := .fz _ _ [] h k sz es hz hr
end Go.XW
