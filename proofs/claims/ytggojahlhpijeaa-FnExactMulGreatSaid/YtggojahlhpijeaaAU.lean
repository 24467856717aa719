/- Tools for telling what a body comes to. No condition. -/
import Derived.Test.YtggojahlhpijeaaA14
import Derived.Tactics
namespace Go.Proofs.YtggojahlhpijeaaA
open Go Go.RowKit
def apick (c x y : AV) : Option AV :=
  match c with
  | .b c => some (if c = true then x else y)
  | _ => none
def aloadT (x : Option TI) (S : Store) (a : AV) : Option AV :=
  match x with
  | some x => aload S x a
  | none => none
def anil : AV → Option AV
  | .ptr id off => some (.ptr id off)
  | .fad cs => some (.fad cs)
  | .fn (.func f) a c => some (.fn (.func f) a c)
  | _ => none
def afieldAddr (x : Option TI) (f : Nat) (v : AV) : Option AV :=
  match x with
  | some ⟨.struct fs _, _, _, _⟩ => match fs[f]? with
      | some (o, sz, _) => if sz = 0 then none else match v with
        | .ptr id off => some (.ptr id (off + o))
        | .fad cs => some (.fad (cs.drop o))
        | _ => none
      | none => none
  | _ => none
def afield (x : Option TI) (f : Nat) (v : AV) : Option AV :=
  match x with
  | some ⟨.struct fs _, _, _, _⟩ => match fs[f]? with
      | some (o, sz, ag) => match v with
        | .agg cs => if sz = 0 then none else partA o sz ag cs
        | _ => none
      | none => none
  | _ => none
def aindexAddr (T : TT) (t : TypeId) (ix v : AV) : Option AV :=
  match ix with
    | .i _ i => match T t with
      | some ⟨.slice e, _, _, _⟩ => match T e with
        | some y => match v with
          | .sl _ n cs => if 0 ≤ i ∧ i < (n : Int) ∧ i.toNat * y.size < cs.length then some (.fad (cs.drop (i.toNat * y.size))) else none
          | .ref id sz off n => if sz = y.size ∧ 0 < sz ∧ 0 ≤ i ∧ i < (n : Int) then some (.ptr id (off + i.toNat * y.size)) else none
          | _ => none
        | none => none
      | some ⟨.array n e, _, _, _⟩ => match T e with
        | some y => match v with
          | .ptr id off => if 0 ≤ i ∧ i < (n : Int) then some (.ptr id (off + i.toNat * y.size)) else none
          | .fad cs => if 0 ≤ i ∧ i < (n : Int) then some (.fad (cs.drop (i.toNat * y.size))) else none
          | _ => none
        | none => none
      | _ => none
    | _ => none
def byteO (s : ByteArray) (n : Nat) : Option AV := 
  match s[n]? with
  | some b => some (.i .u8 b.toNat)
  | none => none
def aindex (T : TT) (t : TypeId) (ix v : AV) : Option AV :=
  match ix with
    | .i _ i => match v with
      | .s s => match T t with
        | some ⟨.str, _, _, _⟩ => if 0 ≤ i then byteO s i.toNat
          else none
        | _ => none
      | .agg cs => match T t with
        | some ⟨.array n e, _, _, _⟩ => match T e with
          | some y => if 0 ≤ i ∧ i < (n : Int) then partA (i.toNat * y.size) y.size y.agg cs else none
          | none => none
        | _ => none
      | _ => none
    | _ => none
def aextract (v : AV) (j : Nat) : Option AV :=
  match v with
  | .tup vs => vs[j]?
  | _ => none
section
variable {P : Program} {io : FuncId → Bool}

theorem call1_in {g : FuncId} {as : List AV} {v : AV} {l : List Nat} {S : Store} {z : Nat → Bool} {k : AV → Store → (Nat → Bool) → Prop} (h : Good1 P g as v) (hk : k v S (if flat 6 v = true then z else frz z l)) : call1 P g (some as) l S z k := ⟨v, h, hk⟩
theorem call2_in {g : FuncId} {as : List AV} {S S' : Store} {z z' : Nat → Bool} {v : AV} {k : AV → Store → (Nat → Bool) → Prop} (h : Good2 P g as S z v S' z') (hk : k v S' z') : call2 P g as S z k := ⟨v, S', z', h, hk⟩
theorem cond2_t {A B : St → Prop} {σ : St} : cond2 true A B σ = A σ := rfl
theorem cond2_f {A B : St → Prop} {σ : St} : cond2 false A B σ = B σ := rfl
theorem cond2_in {t : Bool} {A B : St → Prop} {σ : St} (h1 : t = true → A σ) (h2 : t = false → B σ) : cond2 t A B σ := by
  cases t
  · exact h2 rfl
  · exact h1 rfl
theorem loop_in {body : (Exit → St → Prop) → St → Prop} {K : Exit → St → Prop} {σ : St} (I : Nat → St → Prop) (m : Nat) (h0 : I m σ) (h : ∀ m τ, I m τ → body (kloop I m K) τ) : loop2 body K σ := ⟨I, ⟨m, h0⟩, h⟩
theorem inv_intro {σ : St} {F : (Nat → AV) → List AV} {S : Store} {z : Nat → Bool} (h : σ = ⟨F (fun i => σ.t.getD i .undef), S, z⟩) : ∃ g : Nat → AV, σ = ⟨F g, S, z⟩ := ⟨_, h⟩
theorem aw_skip {K : Exit → St → Prop} {σ : St} : AW P io .skip K σ = K .normal σ := rfl
theorem aw_region {i : Nat} {ops : Array Oper} {d : Bool} {K : Exit → St → Prop} {σ : St} : AW P io (.region i ops d) K σ = AWs P io ops ops.toList (K .normal) σ := rfl
theorem aw_seq {a b : Code} {K : Exit → St → Prop} {σ : St} : AW P io (.seq a b) K σ = AW P io a (kseq (AW P io b K) K) σ := rfl
theorem aw_block {i : Nat} {c : Code} {K : Exit → St → Prop} {σ : St} : AW P io (.block i c) K σ = AW P io c (kblock i K) σ := rfl
theorem aw_loop {c : Code} {K : Exit → St → Prop} {σ : St} : AW P io (.loop c) K σ = loop2 (AW P io c) K σ := rfl
theorem aw_exit {i : Nat} {K : Exit → St → Prop} {σ : St} : AW P io (.exit i) K σ = K (.exit i) σ := rfl
theorem aw_ret {K : Exit → St → Prop} {σ : St} : AW P io .ret K σ = K .ret σ := rfl
theorem kseq_n {n : St → Prop} {K : Exit → St → Prop} {σ : St} : kseq n K .normal σ = n σ := rfl
theorem kseq_e {n : St → Prop} {K : Exit → St → Prop} {σ : St} {i : Nat} : kseq n K (.exit i) σ = K (.exit i) σ := rfl
theorem kseq_r {n : St → Prop} {K : Exit → St → Prop} {σ : St} : kseq n K .ret σ = K .ret σ := rfl
theorem kblock_n {i : Nat} {K : Exit → St → Prop} {σ : St} : kblock i K .normal σ = K .normal σ := rfl
theorem kblock_r {i : Nat} {K : Exit → St → Prop} {σ : St} : kblock i K .ret σ = K .ret σ := rfl
theorem kblock_e {i j : Nat} {K : Exit → St → Prop} {σ : St} : kblock i K (.exit j) σ = if j = i then K .normal σ else K (.exit j) σ := rfl
theorem kret_n {n : St → Prop} {σ : St} : kret n .normal σ = n σ := rfl
theorem kret_r {n : St → Prop} {σ : St} : kret n .ret σ = n σ := rfl
theorem kloop_n {I : Nat → St → Prop} {m : Nat} {K : Exit → St → Prop} {σ : St} : kloop I m K .normal σ = ∃ m', m' < m ∧ I m' σ := rfl
theorem kloop_e {I : Nat → St → Prop} {m : Nat} {K : Exit → St → Prop} {σ : St} {i : Nat} : kloop I m K (.exit i) σ = K (.exit i) σ := rfl
theorem kloop_r {I : Nat → St → Prop} {m : Nat} {K : Exit → St → Prop} {σ : St} : kloop I m K .ret σ = K .ret σ := rfl
theorem aws_nil {ops : Array Oper} {k : St → Prop} {σ : St} : AWs P io ops [] k σ = k σ := rfl
theorem aws_cons {ops : Array Oper} {o : Oper} {r : List Oper} {k : St → Prop} {σ : St} : AWs P io ops (o :: r) k σ = AWo P io ops o (AWs P io ops r k) σ := rfl

/-- What is done with an operation's value. -/
def kop (k : St → Prop) (t : List AV) (d : Option Tmp) (z : Nat → Bool) (r : Option (AV × Store)) : Prop :=
  match r with
  | some (v, S') => k ⟨putD t d v, S', z⟩
  | none => False
theorem kop_some {k : St → Prop} {t : List AV} {d : Option Tmp} {z : Nat → Bool} {v : AV} {S : Store} : kop k t d z (some (v, S)) = k ⟨putD t d v, S, z⟩ := rfl
def kopv (k : St → Prop) (σ : St) (d : Option Tmp) (r : Option AV) : Prop :=
  match r with
  | some v => k ⟨putD σ.t d v, σ.S, σ.z⟩
  | none => False
theorem kopv_some {k : St → Prop} {σ : St} {d : Option Tmp} {v : AV} : kopv k σ d (some v) = k ⟨putD σ.t d v, σ.S, σ.z⟩ := rfl
theorem kop_map {k : St → Prop} {σ : St} {d : Option Tmp} {r : Option AV} : kop k σ.t d σ.z (r.map (·, σ.S)) = kopv k σ d r := by cases r <;> rfl
/-- Under a guard. -/
def kguard (b : Bool) (A k : St → Prop) (d : Option Tmp) (σ : St) : Prop := if b = true then A σ else k ⟨putD σ.t d .undef, σ.S, σ.z⟩
theorem kguard_t {A k : St → Prop} {d : Option Tmp} {σ : St} : kguard true A k d σ = A σ := rfl
theorem kguard_f {A k : St → Prop} {d : Option Tmp} {σ : St} : kguard false A k d σ = k ⟨putD σ.t d .undef, σ.S, σ.z⟩ := rfl
def aop (P : Program) (io : FuncId → Bool) (d : Option Tmp) (op : Op) (k : St → Prop) (σ : St) : Prop :=
  match op with
  | .call c => acall P io c σ (kput k σ.t d)
  | op => kop k σ.t d σ.z (astep (mkT P) (evalT σ.t) σ.S σ.z op)
theorem awo_n {ops : Array Oper} {d : Option Tmp} {op : Op} {ty : TypeId} {p : String} {af : Array Edge} {k : St → Prop} {σ : St} : AWo P io ops ⟨d, op, ty, p, af, none⟩ k σ = aop P io d op k σ := by
  cases op <;> rfl
def guardB (ops : Array Oper) (g : Nat) (want : Bool) (t : List AV) : Bool :=
  match (ops[g]?).bind (·.dst) with
    | some d => match t.getD d .undef with
      | .b x => x == want
      | _ => false
    | none => false
theorem awo_g {ops : Array Oper} {d : Option Tmp} {op : Op} {ty : TypeId} {p : String} {af : Array Edge} {g : Nat} {want : Bool} {k : St → Prop} {σ : St} : AWo P io ops ⟨d, op, ty, p, af, some (g, want)⟩ k σ = kguard (guardB ops g want σ.t) (aop P io d op k) k d σ := by
  cases op <;> rfl
section
variable {d : Option Tmp} {k : St → Prop} {σ : St}
theorem aop_move {x : Operand} : aop P io d (.move x) k σ = k ⟨putD σ.t d (evalT σ.t x), σ.S, σ.z⟩ := rfl
theorem aop_assign {x : Operand} : aop P io d (.assign x) k σ = k ⟨putD σ.t d (evalT σ.t x), σ.S, σ.z⟩ := rfl
theorem aop_pick {c x y : Operand} : aop P io d (.pick c x y) k σ = kopv k σ d (apick (evalT σ.t c) (evalT σ.t x) (evalT σ.t y)) := kop_map (r := apick (evalT σ.t c) (evalT σ.t x) (evalT σ.t y))
theorem aop_load {t : TypeId} {x : Operand} : aop P io d (.load t x) k σ = kopv k σ d (aloadT (mkT P t) σ.S (evalT σ.t x)) := by
  unfold aop; simp only [astep]; unfold aloadT; cases mkT P t <;> first | rfl | exact kop_map
theorem aop_binOp {op : BinOp} {t yt : TypeId} {x y : Operand} : aop P io d (.binOp op t x y yt) k σ = kopv k σ d (abin (mkT P) op t (evalT σ.t x) (evalT σ.t y)) := kop_map (r := abin (mkT P) op t (evalT σ.t x) (evalT σ.t y))
theorem aop_unOp {op : UnOp} {t : TypeId} {x : Operand} : aop P io d (.unOp op t x) k σ = kopv k σ d (aun op (evalT σ.t x)) := kop_map (r := aun op (evalT σ.t x))
theorem aop_build {t : TypeId} {ps : Array (Nat × Operand)} : aop P io d (.build t ps) k σ = kopv k σ d (apure (mkT P) (evalT σ.t) (.build t ps)) := kop_map (r := apure (mkT P) (evalT σ.t) (.build t ps))
theorem aop_buildSlice {t : TypeId} {n : Nat} {ps : Array (Nat × Operand)} : aop P io d (.buildSlice t n ps) k σ = kopv k σ d (apure (mkT P) (evalT σ.t) (.buildSlice t n ps)) := kop_map (r := apure (mkT P) (evalT σ.t) (.buildSlice t n ps))
theorem aop_nilCheck {x : Operand} : aop P io d (.nilCheck x) k σ = kopv k σ d (anil (evalT σ.t x)) := kop_map (r := anil (evalT σ.t x))
theorem aop_makeFunc {f : FuncId} {a b : Array Operand} : aop P io d (.makeFunc (.func f) a b) k σ = kopv k σ d (some (.fn (.func f) (a.toList.map (evalT σ.t)) (b.toList.map (evalT σ.t)))) := kop_map (r := some (.fn (.func f) (a.toList.map (evalT σ.t)) (b.toList.map (evalT σ.t))))
theorem aop_slice {t : TypeId} {x : Operand} {lo hi mx : Option Operand} : aop P io d (.slice t x lo hi mx) k σ = kopv k σ d (asl (mkT P) t (evalT σ.t x) ((lo.map (evalT σ.t)).getD (.i .i64 0)) (hi.map (evalT σ.t)) (mx.map (evalT σ.t))) := kop_map (r := asl (mkT P) t (evalT σ.t x) ((lo.map (evalT σ.t)).getD (.i .i64 0)) (hi.map (evalT σ.t)) (mx.map (evalT σ.t)))
theorem aop_fieldAddr {t : TypeId} {x : Operand} {f : Nat} : aop P io d (.fieldAddr t x f) k σ = kopv k σ d (afieldAddr (mkT P t) f (evalT σ.t x)) := kop_map (r := afieldAddr (mkT P t) f (evalT σ.t x))
theorem aop_field {t : TypeId} {x : Operand} {f : Nat} : aop P io d (.field t x f) k σ = kopv k σ d (afield (mkT P t) f (evalT σ.t x)) := kop_map (r := afield (mkT P t) f (evalT σ.t x))
theorem aop_indexAddr {t : TypeId} {x ix : Operand} : aop P io d (.indexAddr t x ix) k σ = kopv k σ d (aindexAddr (mkT P) t (evalT σ.t ix) (evalT σ.t x)) := kop_map (r := aindexAddr (mkT P) t (evalT σ.t ix) (evalT σ.t x))
theorem aop_index {t : TypeId} {x ix : Operand} : aop P io d (.index t x ix) k σ = kopv k σ d (aindex (mkT P) t (evalT σ.t ix) (evalT σ.t x)) := kop_map (r := aindex (mkT P) t (evalT σ.t ix) (evalT σ.t x))
theorem aop_extract {x : Operand} {j : Nat} : aop P io d (.extract x j) k σ = kopv k σ d (aextract (evalT σ.t x) j) := kop_map (r := aextract (evalT σ.t x) j)
theorem aop_alloc {t : TypeId} : aop P io d (.alloc t) k σ = kop k σ.t d σ.z (astep (mkT P) (evalT σ.t) σ.S σ.z (.alloc t)) := rfl
theorem aop_box {t : TypeId} {x : Operand} : aop P io d (.box t x) k σ = kop k σ.t d σ.z (astep (mkT P) (evalT σ.t) σ.S σ.z (.box t x)) := rfl
theorem aop_store {t : TypeId} {x y : Operand} : aop P io d (.store t x y) k σ = kop k σ.t d σ.z (astep (mkT P) (evalT σ.t) σ.S σ.z (.store t x y)) := rfl
theorem aop_makeSlice {t : TypeId} {l c : Operand} : aop P io d (.makeSlice t l c) k σ = kop k σ.t d σ.z (astep (mkT P) (evalT σ.t) σ.S σ.z (.makeSlice t l c)) := rfl
theorem aop_convert {s t : TypeId} {x : Operand} : aop P io d (.convert s t x) k σ = kop k σ.t d σ.z (astep (mkT P) (evalT σ.t) σ.S σ.z (.convert s t x)) := rfl
theorem aop_call {c : Call} : aop P io d (.call c) k σ = acall P io c σ (kput k σ.t d) := rfl
end

/-- A built-in function's value. -/
def kb (k : AV → Store → (Nat → Bool) → Prop) (z : Nat → Bool) (r : Option (AV × Store)) : Prop :=
  match r with
  | some (v, S') => k v S' z
  | none => False
theorem kb_some {k : AV → Store → (Nat → Bool) → Prop} {z : Nat → Bool} {v : AV} {S : Store} : kb k z (some (v, S)) = k v S z := rfl
def kfun (P : Program) (io : FuncId → Bool) (f : Operand) (v : AV) (args : List AV) (S : Store) (z : Nat → Bool) (k : AV → Store → (Nat → Bool) → Prop) : Prop :=
  match v with
    | .fn (.func g) first cap =>
      if isIo io f g = true then call2 P g (first ++ args ++ cap) S z k
      else call1 P g (mapO (deep S 6) (first ++ args ++ cap)) ((first ++ args ++ cap).flatMap (refs 6)) S z k
    | _ => False
def kio (b : Bool) (P : Program) (g : FuncId) (args : List AV) (S : Store) (z : Nat → Bool) (k : AV → Store → (Nat → Bool) → Prop) : Prop :=
  if b = true then call2 P g args S z k else call1 P g (mapO (deep S 6) args) (args.flatMap (refs 6)) S z k
theorem kio_t {g : FuncId} {args : List AV} {S : Store} {z : Nat → Bool} {k : AV → Store → (Nat → Bool) → Prop} : kio true P g args S z k = call2 P g args S z k := rfl
theorem kio_f {g : FuncId} {args : List AV} {S : Store} {z : Nat → Bool} {k : AV → Store → (Nat → Bool) → Prop} : kio false P g args S z k = call1 P g (mapO (deep S 6) args) (args.flatMap (refs 6)) S z k := rfl
theorem kfun_fn {f : Operand} {g : FuncId} {first cap args : List AV} {S : Store} {z : Nat → Bool} {k : AV → Store → (Nat → Bool) → Prop} : kfun P io f (.fn (.func g) first cap) args S z k = kio (isIo io f g) P g (first ++ args ++ cap) S z k := rfl
theorem acall_b {b : Builtin} {args : Array Operand} {ts : Array TypeId} {σ : St} {k : AV → Store → (Nat → Bool) → Prop} : acall P io ⟨.builtin b, args, ts⟩ σ k = kb k σ.z (abuiltin (mkT P) σ.S σ.z b ts.toList (args.toList.map (evalT σ.t))) := rfl
theorem acall_v {f : Operand} {args : Array Operand} {ts : Array TypeId} {σ : St} {k : AV → Store → (Nat → Bool) → Prop} : acall P io ⟨.value f, args, ts⟩ σ k = kfun P io f (evalT σ.t f) (args.toList.map (evalT σ.t)) σ.S σ.z k := rfl
def kcond (v : AV) (A B : St → Prop) (σ : St) : Prop :=
  match v with
  | .b t => cond2 t A B σ
  | _ => False
theorem kcond_b {t : Bool} {A B : St → Prop} {σ : St} : kcond (.b t) A B σ = cond2 t A B σ := rfl
theorem aw_cond {c : Operand} {a b : Code} {K : Exit → St → Prop} {σ : St} : AW P io (.cond c a b) K σ = kcond (evalT σ.t c) (AW P io a K) (AW P io b K) σ := rfl
section
variable {S : Store} {d : Nat}
theorem deep_b {x : Bool} : deep S (d + 1) (.b x) = some (.b x) := rfl
theorem deep_i {k : IntKind} {n : Int} : deep S (d + 1) (.i k n) = some (.i k n) := rfl
theorem deep_s {x : ByteArray} : deep S (d + 1) (.s x) = some (.s x) := rfl
theorem deep_raw {x : Value} : deep S (d + 1) (.raw x) = some (.raw x) := rfl
theorem deep_sl {f : Bool} {n : Nat} {cs : List AV} : deep S (d + 1) (.sl f n cs) = some (.sl false n cs) := rfl
theorem deep_ref {id sz off n : Nat} : deep S (d + 1) (.ref id sz off n) = (match S.getD id none with
      | some cs => if off + n * sz ≤ cs.length ∧ cs.all AV.closed = true then some (.sl false n (((cs.drop off).take (n * sz)).map AV.nf)) else none
      | none => none) := rfl
theorem deep_agg {cs : List AV} : deep S (d + 1) (.agg cs) = (mapO (deep S d) cs).map .agg := rfl
theorem deep_tup {cs : List AV} : deep S (d + 1) (.tup cs) = (mapO (deep S d) cs).map .tup := rfl
theorem deep_fn {f : Fn} {a c : List AV} : deep S (d + 1) (.fn f a c) = (match mapO (deep S d) a, mapO (deep S d) c with
      | some a, some c => some (.fn f a c)
      | _, _ => none) := rfl
theorem flat_b {x : Bool} : flat (d + 1) (.b x) = true := rfl
theorem refs_b {x : Bool} : refs (d + 1) (.b x) = [] := rfl
theorem flat_i {k : IntKind} {n : Int} : flat (d + 1) (.i k n) = true := rfl
theorem refs_i {k : IntKind} {n : Int} : refs (d + 1) (.i k n) = [] := rfl
theorem flat_s {x : ByteArray} : flat (d + 1) (.s x) = true := rfl
theorem refs_s {x : ByteArray} : refs (d + 1) (.s x) = [] := rfl
theorem flat_raw {x : Value} : flat (d + 1) (.raw x) = false := rfl
theorem refs_raw {x : Value} : refs (d + 1) (.raw x) = [] := rfl
theorem flat_sl {f : Bool} {n : Nat} {cs : List AV} : flat (d + 1) (.sl f n cs) = false := rfl
theorem refs_sl {f : Bool} {n : Nat} {cs : List AV} : refs (d + 1) (.sl f n cs) = [] := rfl
theorem flat_ref {id sz off n : Nat} : flat (d + 1) (.ref id sz off n) = false := rfl
theorem refs_ref {id sz off n : Nat} : refs (d + 1) (.ref id sz off n) = [id] := rfl
theorem flat_ptr {id off : Nat} : flat (d + 1) (.ptr id off) = false := rfl
theorem refs_ptr {id off : Nat} : refs (d + 1) (.ptr id off) = [] := rfl
theorem flat_fad {cs : List AV} : flat (d + 1) (.fad cs) = false := rfl
theorem refs_fad {cs : List AV} : refs (d + 1) (.fad cs) = [] := rfl
theorem flat_agg {cs : List AV} : flat (d + 1) (.agg cs) = cs.all (flat d) := rfl
theorem refs_agg {cs : List AV} : refs (d + 1) (.agg cs) = cs.flatMap (refs d) := rfl
theorem flat_tup {cs : List AV} : flat (d + 1) (.tup cs) = cs.all (flat d) := rfl
theorem refs_tup {cs : List AV} : refs (d + 1) (.tup cs) = cs.flatMap (refs d) := rfl
theorem flat_fn {f : Fn} {a c : List AV} : flat (d + 1) (.fn f a c) = false := rfl
theorem refs_fn {f : Fn} {a c : List AV} : refs (d + 1) (.fn f a c) = a.flatMap (refs d) ++ c.flatMap (refs d) := rfl
theorem nf_b {x : Bool} : (AV.b x).nf = .b x := rfl
theorem nf_i {k : IntKind} {n : Int} : (AV.i k n).nf = .i k n := rfl
theorem nf_s {x : ByteArray} : (AV.s x).nf = .s x := rfl
theorem nf_sl {f : Bool} {n : Nat} {cs : List AV} : (AV.sl f n cs).nf = .sl false n cs := rfl
end
theorem frz_nil {z : Nat → Bool} : frz z [] = z := rfl
theorem mapO_nil {α β : Type} {f : α → Option β} : mapO f [] = some [] := rfl
theorem mapO_cons {α β : Type} {f : α → Option β} {x : α} {xs : List α} : mapO f (x :: xs) = (match f x with
    | some y => match mapO f xs with
      | some ys => some (y :: ys)
      | none => none
    | none => none) := rfl
theorem kput_eq {k : St → Prop} {t : List AV} {d : Option Tmp} {v : AV} {S : Store} {z : Nat → Bool} : kput k t d v S z = k ⟨putD t d v, S, z⟩ := rfl
theorem putD_some {t : List AV} {d : Nat} {v : AV} : putD t (some d) v = t.set d v := rfl
theorem putD_none {t : List AV} {v : AV} : putD t none v = t := rfl
theorem ite_t {α : Sort _} {a b : α} : (if true = true then a else b) = a := rfl
theorem ite_f {α : Sort _} {a b : α} : (if false = true then a else b) = b := rfl
end
section
variable {k : IntKind} {a b : Int}
theorem abinI_add : abinI .add k a b = some (.i k (k.wrap (a + b))) := rfl
theorem abinI_sub : abinI .sub k a b = some (.i k (k.wrap (a - b))) := rfl
theorem abinI_mul : abinI .mul k a b = some (.i k (k.wrap (a * b))) := rfl
theorem abinI_quo : abinI .quo k a b = if b = 0 then none else some (.i k (k.wrap (a.tdiv b))) := rfl
theorem abinI_rem : abinI .rem k a b = if b = 0 then none else some (.i k (a.tmod b)) := rfl
theorem abinI_eql : abinI .eql k a b = some (.b (decide (a = b))) := rfl
theorem abinI_neq : abinI .neq k a b = some (.b (!decide (a = b))) := rfl
theorem abinI_lss : abinI .lss k a b = some (.b (decide (a < b))) := rfl
theorem abinI_leq : abinI .leq k a b = some (.b (decide (a ≤ b))) := rfl
theorem abinI_gtr : abinI .gtr k a b = some (.b (decide (b < a))) := rfl
theorem abinI_geq : abinI .geq k a b = some (.b (decide (b ≤ a))) := rfl
end
attribute [go_sem] aw_skip aw_region aw_seq aw_cond aw_block aw_loop aw_exit aw_ret kseq_n kseq_e kseq_r kblock_n kblock_r kblock_e kret_n kret_r kloop_e kloop_r aws_nil aws_cons awo_n awo_g guardB kguard_t kguard_f kop_some kopv_some aop_move aop_assign aop_pick aop_load aop_binOp aop_unOp aop_build aop_buildSlice aop_nilCheck aop_makeFunc aop_slice aop_fieldAddr aop_field aop_indexAddr aop_index aop_extract aop_alloc aop_box aop_store aop_makeSlice aop_convert aop_call apick aloadT anil afieldAddr afield aindexAddr aindex aextract kb_some kio_t kio_f kfun_fn acall_b acall_v kcond_b astep apure evalT putD_some putD_none isIo ofConst ofC kput_eq abuiltin abin abinI_add abinI_sub abinI_mul abinI_quo abinI_rem abinI_eql abinI_neq abinI_lss abinI_leq abinI_gtr abinI_geq ares ares.mapO2 ares1 one1 nf_b nf_i nf_s nf_sl AV.cells AV.one AV.okc AV.undef AV.closed mapO_nil mapO_cons flat_b refs_b flat_i refs_i flat_s refs_s flat_raw refs_raw flat_sl refs_sl flat_ref refs_ref flat_ptr refs_ptr flat_fad refs_fad flat_agg refs_agg flat_tup refs_tup flat_fn refs_fn rd aload asl astore setAt TI.agg cellsOfSlice aappend asrc partA fillA ashift abinS aun toBytes aeqc aeqs cond2_t cond2_f ite_t ite_f deep_b deep_i deep_s deep_raw deep_sl deep_ref deep_agg deep_tup deep_fn frz_nil
attribute [go_sem] Bool.false_or Bool.or_false Bool.true_or Bool.or_true Bool.false_and Bool.and_false List.getD_cons_zero List.getD_cons_succ List.set_cons_zero List.set_cons_succ List.length_cons List.length_nil List.cons_append List.nil_append List.append_nil List.replicate_succ List.replicate_zero List.map_cons List.map_nil Option.map_some Option.map_none Option.getD_some Option.getD_none List.flatMap_cons List.flatMap_nil if_true if_false Option.bind_some List.head?_cons List.drop_succ_cons List.drop_zero List.take_succ_cons List.take_zero List.all_cons List.all_nil Bool.and_true Bool.true_and Bool.not_true Bool.not_false true_and and_true Option.some.injEq exists_eq_left' exists_eq_left List.getElem?_cons_zero List.getElem?_cons_succ List.flatten_cons List.flatten_nil List.drop_nil List.take_nil bne_self_eq_false beq_self_eq_true
end Go.Proofs.YtggojahlhpijeaaA
