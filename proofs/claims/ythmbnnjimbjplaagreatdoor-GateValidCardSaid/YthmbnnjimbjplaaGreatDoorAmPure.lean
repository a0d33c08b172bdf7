/- Operations that touch no memory: what the abstract machine answers, the model's run answers. Conditions: none. -/
import Derived.Test.YthmbnnjimbjplaaGreatDoorAmGood
import Derived.Laws.Tables
import Derived.Laws.MakeOwn
set_option linter.unusedVariables false
set_option linter.unusedSimpArgs false
namespace Go.AM
open Go Go.RowKit

theorem bindO_eq {α : Type} {o : Option α} {f : α → Bool} (h : bindO o f = true) : ∃ a, o = some a ∧ f a = true := by
  cases o with
  | none => simp [bindO] at h
  | some a => exact ⟨a, rfl, h⟩

/-- What an operation without memory yields. -/
def pureV (P : Program) (ρ : Operand → AV) : Op → Option AV
  | .move x => some (ρ x)
  | .assign x => some (ρ x)
  | .pick c a b => pickS (ρ c) (ρ a) (ρ b)
  | .build t ps => (buildI P t (ps.toList.map (·.1))).bind fun i => aggS i.1 i.2 (ps.toList.map fun p => ρ p.2)
  | .nilCheck x => nilCheckS (ρ x)
  | .binOp op t x y _ => (match op with
    | .eql => (P.underlying t).bind fun d => eqV d (ρ x) (ρ y)
    | .neq => (P.underlying t).bind fun d => neV d (ρ x) (ρ y)
    | op => binS op (ρ x) (ρ y))
  | .unOp op _ x => unS op (ρ x)
  | .makeInterface t x => (ifaceI P t).bind fun _ => some (.iface t (ρ x))
  | .makeFunc fn first cap => (match fn with | .func f => some (.func f (first.toList.map ρ) (cap.toList.map ρ)) | _ => none)
  | .slice t x lo hi mx => (match mx with | none => (sliceI P t).bind fun i => sliceS i (ρ x) (lo.map ρ) (hi.map ρ) | some _ => none)
  | .fieldAddr t x i => (faI P t i).bind fun o => faS o (ρ x)
  | .field t x i => (fieldI P t i).bind fun o => fieldS o.1 o.2 (ρ x)
  | .indexAddr t x i => (iaI P t).bind fun o => iaV o (ρ x) (ρ i)
  | .index t x i => (idxI P t).bind fun o => idxS o (ρ x) (ρ i)
  | .extract t i => extractS (ρ t) i
  | .typeAssert x _ a ok => (assertI P a ok).bind fun z => assertS a z (ρ x)
  | .call c => (match c.callee with
    | .builtin .min => (match c.args.toList.map ρ with | x :: xs => foldS false x xs | _ => none)
    | .builtin .max => (match c.args.toList.map ρ with | x :: xs => foldS true x xs | _ => none)
    | _ => none)
  | _ => none

theorem bindO_bind {α β : Type} (o : Option α) (f : α → Option β) (g : β → Bool) : bindO o (fun a => bindO (f a) g) = bindO (o.bind f) g := by cases o <;> rfl

theorem opFn_pure {P : Program} {ρ : Operand → AV} {op : Op} (hk : opKind op = .pure) (h : Heap) (K : AV → Heap → Bool) : opFn op P ρ h K = bindO (pureV P ρ op) fun v => K v h := by
  cases op <;> simp only [opKind, reduceCtorEq] at hk
  case move => rfl
  case assign => rfl
  case pick => rfl
  case build => simp only [opFn, exBuild, valK, pureV, bindO_bind]
  case nilCheck => rfl
  case binOp op t x y u => cases op <;> simp only [opFn, exBin, valK, pureV, bindO_bind]
  case unOp => rfl
  case makeInterface t x => simp only [opFn, pureV]; cases ifaceI P t <;> rfl
  case makeFunc fn first cap => cases fn <;> rfl
  case slice t x lo hi mx => cases mx <;> simp only [opFn, exSlice, valK, pureV, bindO_bind]; rfl
  case fieldAddr => simp only [opFn, valK, pureV, bindO_bind]
  case field => simp only [opFn, valK, pureV, bindO_bind]
  case indexAddr => simp only [opFn, valK, pureV, bindO_bind]
  case index => simp only [opFn, valK, pureV, bindO_bind]
  case extract => rfl
  case typeAssert x xt a ok => simp only [opFn, valK, pureV, bindO_bind]
  case call c =>
    obtain ⟨cal, args, ts⟩ := c
    cases cal with
    | value f => simp [callKind] at hk
    | invoke r m => simp [callKind] at hk
    | builtin b =>
      cases b <;> simp only [callKind, reduceCtorEq] at hk
      · simp only [opFn, exCall, bltFn, bltFold, pureV]
        cases args.toList.map ρ <;> rfl
      · simp only [opFn, exCall, bltFn, bltFold, pureV]
        cases args.toList.map ρ <;> rfl

section
variable {P : Program} {w0 : World} {μ : Mu} {ρ : Operand → AV} {ρc : Operand → Value}

theorem VR.bool_inv {b : Bool} {v : Value} (h : VR w0 μ (.bool b) v) : v = .bool b := by cases h; rfl
theorem VR.int_inv {k : IntKind} {n : Int} {v : Value} (h : VR w0 μ (.int k n) v) : v = .int k n := by cases h; rfl
theorem VR.str_inv {l : List UInt8} {v : Value} (h : VR w0 μ (.str l) v) : ∃ s : ByteArray, v = .string s ∧ s.data.toList = l := by cases h; exact ⟨_, rfl, rfl⟩
theorem VR.tuple_inv {cs : List AV} {v : Value} (h : VR w0 μ (.tuple cs) v) : ∃ vs : List Value, v = .tuple vs.toArray ∧ VRL w0 μ cs vs := by cases h; exact ⟨_, rfl, ⟨‹_›, ‹_›⟩⟩
theorem VR.agg_inv {cs : List AV} {v : Value} (h : VR w0 μ (.agg cs) v) : ∃ vs : List Value, v = .agg vs.toArray ∧ VRL w0 μ cs vs := by cases h; exact ⟨_, rfl, ⟨‹_›, ‹_›⟩⟩
theorem VRL.agg {cs : List AV} {vs : List Value} (h : VRL w0 μ cs vs) : VR w0 μ (.agg cs) (.agg vs.toArray) := .agg cs vs h.len h.rel
theorem VRL.tuple {cs : List AV} {vs : List Value} (h : VRL w0 μ cs vs) : VR w0 μ (.tuple cs) (.tuple vs.toArray) := .tuple cs vs h.len h.rel
theorem VR.noV : VR w0 μ noV Go.undef := VRL.tuple .nil
theorem asNat_inv {x : AV} {n : Nat} {v : Value} (h : VR w0 μ x v) (hx : asNat x = some n) : ∃ k, v = .int k (n : Int) := by
  cases h <;> simp [asNat] at hx
  rename_i k m
  exact ⟨k, by rw [← hx.2, Int.toNat_of_nonneg hx.1]⟩
theorem addr_add (c o n : Nat) : (⟨c, o, none⟩ : Addr).add n = ⟨c, o + n, none⟩ := by unfold Addr.add; split <;> simp_all

/-! the single operations, without memory -/
theorem pure_pick {c a b v : AV} {cv av bv : Value} (hc : VR w0 μ c cv) (ha : VR w0 μ a av) (hb : VR w0 μ b bv) (h : pickS c a b = some v) :
    ∃ t, cv = .bool t ∧ VR w0 μ v (if t then av else bv) := by
  cases c <;> simp [pickS] at h
  rename_i t
  refine ⟨t, hc.bool_inv, ?_⟩
  subst h
  cases t
  · exact hb
  · exact ha

theorem pure_un {op : UnOp} {x v : AV} {xv : Value} (hx : VR w0 μ x xv) (h : unS op x = some v) : ∃ vc, (∀ w, (Op.unary op xv).run P w = .ok vc w) ∧ VR w0 μ v vc := by
  unfold unS at h
  split at h
  · cases h; rw [hx.int_inv]; exact ⟨_, fun w => rfl, .int _ _⟩
  · cases h; rw [hx.bool_inv]; exact ⟨_, fun w => rfl, .bool _⟩
  · cases h


theorem pure_nilCheck {x v : AV} {xv : Value} (hx : VR w0 μ x xv) (h : nilCheckS x = some v) : VR w0 μ v xv ∧ ((∃ a, xv = .pointer (some a)) ∨ ∃ f a b, xv = .func (.func f) a b) := by
  unfold nilCheckS at h
  split at h
  · cases h; cases hx; exact ⟨.ptr _ _ _ ‹_›, .inl ⟨_, rfl⟩⟩
  · cases h; cases hx; exact ⟨.iptr _ _ _ _ _ ‹_› ‹_› ‹_› ‹_›, .inl ⟨_, rfl⟩⟩
  · cases h; cases hx; exact ⟨.func _ _ _ _ _ ‹_› ‹_› ‹_› ‹_›, .inr ⟨_, _, _, rfl⟩⟩
  · cases h

theorem pure_bin {op : BinOp} {t : TypeId} {x y v : AV} {xv yv : Value} (hx : VR w0 μ x xv) (hy : VR w0 μ y yv) (h : binS op x y = some v) (h1 : op ≠ .eql) (h2 : op ≠ .neq) :
    ∃ vc, (∀ w, (binOp op t xv yv).run P w = .ok vc w) ∧ VR w0 μ v vc := by
  unfold binS at h
  split at h
  · rename_i k a k' b
    split at h
    · rename_i hk
      subst hk
      rw [hx.int_inv, hy.int_inv]
      cases op <;> simp only [reduceCtorEq] at h <;> first | (exact absurd rfl h1) | (exact absurd rfl h2) | skip
      · cases h; exact ⟨.int k (k.wrap (a + b)), fun w => by simp [binOp, Op.intArith], .int _ _⟩
      · cases h; exact ⟨.int k (k.wrap (a - b)), fun w => by simp [binOp, Op.intArith], .int _ _⟩
      · cases h; exact ⟨.int k (k.wrap (a * b)), fun w => by simp [binOp, Op.intArith], .int _ _⟩
      · split at h
        · cases h
        · rename_i hb; cases h; exact ⟨.int k (k.wrap (a.tdiv b)), fun w => by simp [binOp, Op.intDiv, hb], .int _ _⟩
      · split at h
        · cases h
        · rename_i hb; cases h; exact ⟨.int k (a.tmod b), fun w => by simp [binOp, Op.intDiv, hb], .int _ _⟩
      · cases h; exact ⟨.bool (decide (a < b)), fun w => by simp [binOp, Op.intCmp], .bool _⟩
      · cases h; exact ⟨.bool (decide (a ≤ b)), fun w => by simp [binOp, Op.intCmp], .bool _⟩
      · cases h; exact ⟨.bool (decide (a > b)), fun w => by simp [binOp, Op.intCmp], .bool _⟩
      · cases h; exact ⟨.bool (decide (a ≥ b)), fun w => by simp [binOp, Op.intCmp], .bool _⟩
    · cases h
  · rename_i a b
    obtain ⟨s, rfl, rfl⟩ := hx.str_inv
    obtain ⟨u, rfl, rfl⟩ := hy.str_inv
    cases op <;> simp only [reduceCtorEq] at h <;> first | (exact absurd rfl h1) | (exact absurd rfl h2) | skip
    · split at h
      · rename_i hl
        cases h
        refine ⟨.string (s ++ u), fun w => ?_, ?_⟩
        · have e1 : s.data.toList.length = s.size := by rw [Array.length_toList]; rfl
          have e2 : u.data.toList.length = u.size := by rw [Array.length_toList]; rfl
          rw [e1, e2] at hl
          have : ¬ (((s.size + u.size : Nat) : Int) > IntKind.i64.max) := by
            have : IntKind.i64.max = 9223372036854775807 := by decide
            rw [this]; omega
          unfold binOp
          simp only [Op.stringOp, if_neg this]
          rfl
        · have e : (s ++ u).data.toList = s.data.toList ++ u.data.toList := by simp
          rw [← e]; exact .str _
      · cases h
    · cases h; exact ⟨.bool (Op.bytesLess s.data.toList u.data.toList), fun w => by simp [binOp, Op.stringOp, ByteArray.toList_eq], .bool _⟩
    · cases h; exact ⟨.bool (Op.bytesLess s.data.toList u.data.toList || s.data.toList == u.data.toList), fun w => by simp [binOp, Op.stringOp, ByteArray.toList_eq], .bool _⟩
    · cases h; exact ⟨.bool (!(Op.bytesLess s.data.toList u.data.toList || s.data.toList == u.data.toList)), fun w => by simp [binOp, Op.stringOp, ByteArray.toList_eq], .bool _⟩
    · cases h; exact ⟨.bool (!(Op.bytesLess s.data.toList u.data.toList)), fun w => by simp [binOp, Op.stringOp, ByteArray.toList_eq], .bool _⟩
  · cases h

theorem eqGuard_plain {op : BinOp} {t : TypeId} {x y : Operand} {a b : Value} {w : World} (h1 : a ≠ .nilIface) (h2 : ∀ c, a ≠ .agg c) : (eqGuard op t x y a b).run P w = .ok () w := by
  unfold eqGuard
  cases op <;> first | rfl | (cases a <;> first | (exact absurd rfl h1) | (exact absurd rfl (h2 _)) | rfl)

section
variable {t : TypeId} (d : Nat) (w : World)
theorem eqIn_bool (hd : P.underlying t = some .bool) (a b : Bool) : (Op.equalIn (d + 1) t (.bool a) (.bool b)).run P w = .ok (a == b) w := by simp [Op.equalIn, run_underlying hd]
theorem eqIn_ptr {e : TypeId} (hd : P.underlying t = some (.pointer e)) (a : Addr) :
    (Op.equalIn (d + 1) t (.pointer none) (.pointer none)).run P w = .ok true w ∧ (Op.equalIn (d + 1) t (.pointer (some a)) (.pointer none)).run P w = .ok false w ∧
    (Op.equalIn (d + 1) t (.pointer none) (.pointer (some a))).run P w = .ok false w := by simp [Op.equalIn, run_underlying hd]
theorem eqIn_slice {e : TypeId} (hd : P.underlying t = some (.slice e)) (a : Addr) (n c : Nat) :
    (Op.equalIn (d + 1) t (.slice none 0 0) (.slice none 0 0)).run P w = .ok true w ∧ (Op.equalIn (d + 1) t (.slice (some a) n c) (.slice none 0 0)).run P w = .ok false w ∧
    (Op.equalIn (d + 1) t (.slice none 0 0) (.slice (some a) n c)).run P w = .ok false w := by simp [Op.equalIn, run_underlying hd]
theorem eqIn_map {k e : TypeId} (hd : P.underlying t = some (.map k e)) (a : Nat) :
    (Op.equalIn (d + 1) t (.map none) (.map none)).run P w = .ok true w ∧ (Op.equalIn (d + 1) t (.map (some a)) (.map none)).run P w = .ok false w ∧
    (Op.equalIn (d + 1) t (.map none) (.map (some a))).run P w = .ok false w := by simp [Op.equalIn, run_underlying hd]
theorem eqIn_func {x y : Array TypeId} {z : Bool} (hd : P.underlying t = some (.func x y z)) (f : Fn) (a b : Array Value) :
    (Op.equalIn (d + 1) t .nilFunc .nilFunc).run P w = .ok true w ∧ (Op.equalIn (d + 1) t (.func f a b) .nilFunc).run P w = .ok false w ∧
    (Op.equalIn (d + 1) t .nilFunc (.func f a b)).run P w = .ok false w := by simp [Op.equalIn, run_underlying hd]
end

theorem binOp_eql {t : TypeId} {x y : Value} {b : Bool} {w : World} (h : (Op.equal t x y).run P w = .ok b w) (h1 : ∀ k n, x ≠ .int k n) (h2 : ∀ s, x ≠ .string s) (h3 : ∀ k n, x ≠ .float k n) (h4 : ∀ k n m, x ≠ .complex k n m) :
    (binOp .eql t x y).run P w = .ok (.bool b) w ∧ (binOp .neq t x y).run P w = .ok (.bool (!b)) w := by
  cases x <;> first | (exact absurd rfl (h1 _ _)) | (exact absurd rfl (h2 _)) | (exact absurd rfl (h3 _ _)) | (exact absurd rfl (h4 _ _ _)) | (simp [binOp, h])

theorem eq_plain {t : TypeId} {d : TypeDesc} (hd : P.underlying t = some d) {x y : AV} {b : Bool} {xv yv : Value} (hx : VR w0 μ x xv) (hy : VR w0 μ y yv) (h : eqS d x y = some b) :
    (∀ w, (binOp .eql t xv yv).run P w = .ok (.bool b) w) ∧ (∀ w, (binOp .neq t xv yv).run P w = .ok (.bool (!b)) w) ∧ xv ≠ .nilIface ∧ ∀ c, xv ≠ .agg c := by
  have key : (∀ w, (Op.equalIn (9999 + 1) t xv yv).run P w = .ok b w) → (∀ k n, xv ≠ .int k n) → (∀ s, xv ≠ .string s) → (∀ k n, xv ≠ .float k n) → (∀ k n m, xv ≠ .complex k n m) →
      (∀ w, (binOp .eql t xv yv).run P w = .ok (.bool b) w) ∧ (∀ w, (binOp .neq t xv yv).run P w = .ok (.bool (!b)) w) :=
    fun h1 a b c d => ⟨fun w => (binOp_eql (h1 w) a b c d).1, fun w => (binOp_eql (h1 w) a b c d).2⟩
  unfold eqS at h
  split at h
  · rename_i k a k' b'
    split at h
    · rename_i hk
      subst hk
      cases h
      rw [hx.int_inv, hy.int_inv]
      refine ⟨fun w => by simp [binOp, Op.intCmp], fun w => by simp [binOp, Op.intCmp, bne], by simp, by simp⟩
    · cases h
  · rename_i a b'
    cases h
    obtain ⟨s, rfl, rfl⟩ := hx.str_inv
    obtain ⟨u, rfl, rfl⟩ := hy.str_inv
    refine ⟨fun w => by simp [binOp, Op.stringOp, ByteArray.toList_eq], fun w => by simp [binOp, Op.stringOp, ByteArray.toList_eq], by simp, by simp⟩
  all_goals first
    | (cases h; done)
    | (split at h
       · cases h
         cases hx; cases hy
         have := key (fun w => by first | exact eqIn_bool 9999 w hd _ _ | exact (eqIn_ptr 9999 w hd default).1 | exact (eqIn_ptr 9999 w hd _).2.1 | exact (eqIn_ptr 9999 w hd _).2.2 | exact (eqIn_slice 9999 w hd default 0 0).1 | exact (eqIn_slice 9999 w hd _ _ _).2.1 | exact (eqIn_slice 9999 w hd _ _ _).2.2 | exact (eqIn_map 9999 w hd 0).1 | exact (eqIn_map 9999 w hd _).2.1 | exact (eqIn_map 9999 w hd _).2.2 | exact (eqIn_func 9999 w hd (.func 0) #[] #[]).1 | exact (eqIn_func 9999 w hd _ _ _).2.1 | exact (eqIn_func 9999 w hd _ _ _).2.2) (by simp) (by simp) (by simp) (by simp)
         exact ⟨this.1, this.2, by simp, by simp⟩
       · cases h)

theorem pure_fa {P : Program} {t : TypeId} {i off : Nat} {x v : AV} {xv : Value} (hx : VR w0 μ x xv) (hi : faI P t i = some off) (h : faS off x = some v) :
    ∃ vc, (∀ w, (Instr.fieldAt t xv i).run P w = .ok vc w) ∧ VR w0 μ v vc := by
  unfold faI fieldT at hi
  split at hi
  · rename_i f hf
    split at hf
    · rename_i fs hu
      split at hi
      · rename_i s hs
        split at hi
        · cases hi
        · rename_i hs0
          cases hi
          have hsz : ∀ w, (sizeOf f.type).run P w = .ok s w := by
            intro w
            unfold sizeT at hs
            split at hs
            · rename_i inf hinf; cases hs; simp [sizeOf, typeInfo, hinf]
            · cases hs
          have key : ∀ (c o : Nat) (w : World), (Instr.fieldAt t (.pointer (some ⟨c, o, none⟩)) i).run P w = .ok (.pointer (some ⟨c, o + f.offset, none⟩)) w := by
            intro c o w
            simp [Instr.fieldAt, run_underlying hu, hf, Instr.sureAddr, fieldPlace, hsz, hs0, addr_add]
          unfold faS at h
          split at h
          · cases h; cases hx
            rename_i b o k hk
            refine ⟨_, fun w => key _ _ w, ?_⟩
            rw [Nat.add_assoc]; exact .ptr _ _ _ hk
          · cases h; cases hx
            refine ⟨_, fun w => key _ _ w, ?_⟩
            rw [Nat.add_assoc]; exact .iptr _ _ _ _ _ ‹_› ‹_› ‹_› ‹_›
          · cases h
      · cases hi
    · cases hf
  · cases hi

theorem run_sizeT {P : Program} {t : TypeId} {n : Nat} (h : sizeT P t = some n) (w : World) : (sizeOf t).run P w = .ok n w := by
  unfold sizeT at h
  split at h
  · rename_i inf hinf; cases h; simp [sizeOf, typeInfo, hinf]
  · cases h

/-- What 'readT' says of a type, in the model's words. -/
theorem readT_spec {P : Program} {t : TypeId} {r : Option Nat} (hr : readT P t = some r) :
    (∃ n, r = some n ∧ (∀ w, (isAgg t).run P w = .ok true w) ∧ ∀ w, (sizeOf t).run P w = .ok n w) ∨ (r = none ∧ ∀ w, (isAgg t).run P w = .ok false w) := by
  unfold readT at hr
  split at hr
  · rename_i fs hu
    split at hr
    · rename_i n hn
      cases hr
      exact .inl ⟨n, rfl, fun w => by simp [isAgg, run_underlying hu], run_sizeT hn⟩
    · cases hr
  · rename_i n' e hu
    split at hr
    · rename_i n hn
      cases hr
      exact .inl ⟨n, rfl, fun w => by simp [isAgg, run_underlying hu], run_sizeT hn⟩
    · cases hr
  · rename_i d h1 h2 hu
    cases hr
    refine .inr ⟨rfl, fun w => ?_⟩
    simp only [isAgg, Sem.run_bind, run_underlying hu, Result.andThen_ok]
    cases d <;> first | rfl | (exact absurd rfl (h1 _)) | (exact absurd rfl (h2 _ _))
  · cases hr

theorem readT_part {P : Program} {t : TypeId} {r : Option Nat} (hr : readT P t = some r) {cs : List AV} {vs : List Value} (hc : VRL w0 μ cs vs) {off : Nat} {v : AV} (h : partS r cs off = some v) :
    ∃ vc, (∀ w, (Go.part t vs.toArray off).run P w = .ok vc w) ∧ VR w0 μ v vc := by
  rcases readT_spec hr with ⟨n, rfl, h1, h2⟩ | ⟨rfl, h1⟩
  · simp only [partS] at h
    split at h
    · cases h
      exact ⟨.agg ((vs.drop off).take n).toArray, fun w => by simp [Go.part, h1, h2], ((hc.drop off).take n).agg⟩
    · cases h
  · simp only [partS] at h
    obtain ⟨vc, hv, hr⟩ := hc.get h
    exact ⟨vc, fun w => by simp [Go.part, h1, hv], hr⟩

theorem pure_field {P : Program} {t : TypeId} {i : Nat} {o : Option Nat × Nat} {x v : AV} {xv : Value} (hx : VR w0 μ x xv) (hi : fieldI P t i = some o) (h : fieldS o.1 o.2 x = some v) :
    ∃ vc, (∀ w, (Instr.field t xv i).run P w = .ok vc w) ∧ VR w0 μ v vc := by
  unfold fieldI fieldT at hi
  split at hi
  · rename_i f hf
    split at hf
    · rename_i fs hu
      split at hi
      · rename_i r hr
        cases hi
        unfold fieldS at h
        split at h
        · rename_i cs
          obtain ⟨vs, rfl, hc⟩ := hx.agg_inv
          obtain ⟨vc, h1, h2⟩ := readT_part hr hc h
          exact ⟨vc, fun w => by simp [Instr.field, run_underlying hu, hf, asAgg, h1], h2⟩
        · cases h
      · cases hi
    · cases hf
  · cases hi

theorem elemT_spec {P : Program} {t e : TypeId} (h : elemT P t = some e) : P.underlying t = some (.slice e) := by
  unfold elemT at h
  split at h
  · cases h; assumption
  · cases h
theorem elemI_spec {P : Program} {t : TypeId} {o : Nat × Nat} (h : elemI P t = some o) : ∃ e inf, P.underlying t = some (.slice e) ∧ P.info? e = some inf ∧ inf.size = o.1 ∧ inf.bytes = o.2 ∧ 0 < o.1 ∧ 0 < o.2 := by
  unfold elemI sizesI at h
  split at h
  · cases h
  · rename_i e he
    split at h
    · rename_i s b hs hb
      split at h
      · rename_i hp
        cases h
        unfold sizeT at hs; unfold bytesT at hb
        split at hs
        · rename_i inf hinf
          rw [hinf] at hb
          cases hs; cases hb
          exact ⟨e, inf, elemT_spec he, hinf, rfl, rfl, by simpa using hp⟩
        · cases hs
      · cases h
    · cases h

theorem pure_ia {P : Program} {t : TypeId} {o : Nat × Nat} {x y v : AV} {xv yv : Value} (hx : VR w0 μ x xv) (hy : VR w0 μ y yv) (hi : elemI P t = some o) (h : iaS o.1 x y = some v) :
    ∃ vc, (∀ w, (Instr.indexAt t xv yv).run P w = .ok vc w) ∧ VR w0 μ v vc := by
  obtain ⟨e, inf, hu, hinf, hs, hb, hp, hp'⟩ := elemI_spec hi
  unfold iaS at h
  split at h
  · cases h
  · rename_i i hn
    obtain ⟨kk, rfl⟩ := asNat_inv hy hn
    have key : ∀ (c off len cap : Nat) (w : World), i < len → (Instr.indexAt t (.slice (some ⟨c, off, none⟩) len cap) (.int kk (i : Int))).run P w = .ok (.pointer (some ⟨c, off + i * o.1, none⟩)) w := by
      intro c off len cap w hlt
      have : ((i : Int) < (len : Int)) := by omega
      simp [Instr.indexAt, run_underlying hu, asIntOf, sizeOf, typeInfo, hinf, hs, addr_add, hlt]
    split at h
    · rename_i b off len sz
      split at h
      · rename_i hc
        cases h
        simp only [Bool.and_eq_true, decide_eq_true_eq, beq_iff_eq] at hc
        cases hx
        rename_i cap a k hk hle ha
        obtain ⟨rfl, hle'⟩ := ha (by omega)
        refine ⟨_, fun w => key _ _ _ _ w hc.1, ?_⟩
        rw [Nat.add_assoc, hc.2]; exact .ptr _ _ _ hk
      · cases h
    · rename_i cs off len sz
      split at h
      · rename_i hc
        cases h
        simp only [Bool.and_eq_true, decide_eq_true_eq, beq_iff_eq] at hc
        cases hx
        rename_i cap a g o' vs hg hv hl hr ha hle
        obtain rfl := ha (by omega)
        refine ⟨_, fun w => key _ _ _ _ w hc.1, ?_⟩
        rw [Nat.add_assoc, hc.2]; exact .iptr _ _ _ _ _ hg hl hv hr
      · cases h
    · cases h

theorem pure_iarr {P : Program} {t : TypeId} {len n : Nat} {x y v : AV} {xv yv : Value} (hx : VR w0 μ x xv) (hy : VR w0 μ y yv) {e : TypeId} (hu : P.underlying t = some (.array len e)) (hs : sizeT P e = some n) (h : iarrS len n x y = some v) :
    ∃ vc, (∀ w, (Instr.indexAt t xv yv).run P w = .ok vc w) ∧ VR w0 μ v vc := by
  unfold sizeT at hs
  split at hs
  · rename_i inf hinf
    simp only [Option.some.injEq] at hs
    unfold iarrS at h
    split at h
    · cases h
    · rename_i i hn
      obtain ⟨kk, rfl⟩ := asNat_inv hy hn
      have key : ∀ (c off : Nat) (w : World), i < len → (Instr.indexAt t (.pointer (some ⟨c, off, none⟩)) (.int kk (i : Int))).run P w = .ok (.pointer (some ⟨c, off + i * n, none⟩)) w := by
        intro c off w hlt
        have : ((i : Int) < (len : Int)) := by omega
        simp [Instr.indexAt, run_underlying hu, asIntOf, Instr.sureAddr, sizeOf, typeInfo, hinf, hs, addr_add, hlt]
      split at h
      · rename_i b off
        split at h
        · rename_i hc
          cases h
          cases hx
          rename_i k hk
          refine ⟨_, fun w => key _ _ w hc, ?_⟩
          rw [Nat.add_assoc]; exact .ptr _ _ _ hk
        · cases h
      · rename_i cs off
        split at h
        · rename_i hc
          cases h
          cases hx
          refine ⟨_, fun w => key _ _ w hc, ?_⟩
          rw [Nat.add_assoc]; exact .iptr _ _ _ _ _ ‹_› ‹_› ‹_› ‹_›
        · cases h
      · cases h
  · cases hs
theorem pure_iaV {P : Program} {t : TypeId} {o : IaK} {x y v : AV} {xv yv : Value} (hx : VR w0 μ x xv) (hy : VR w0 μ y yv) (hi : iaI P t = some o) (h : iaV o x y = some v) :
    ∃ vc, (∀ w, (Instr.indexAt t xv yv).run P w = .ok vc w) ∧ VR w0 μ v vc := by
  unfold iaI at hi
  split at hi
  · rename_i len e hu
    split at hi
    · rename_i s hs; cases hi; exact pure_iarr hx hy hu hs h
    · cases hi
  · split at hi
    · rename_i o' ho; cases hi; exact pure_ia hx hy ho h
    · cases hi

theorem data_get (s : ByteArray) (i : Nat) : s.data.toList[i]? = s[i]? := by
  by_cases h : i < s.size
  · have h' : i < s.data.toList.length := by rw [Array.length_toList]; exact h
    rw [List.getElem?_eq_getElem h', getElem?_pos s i h]; rfl
  · have h' : s.data.toList.length ≤ i := by rw [Array.length_toList]; exact Nat.le_of_not_lt h
    rw [List.getElem?_eq_none h', getElem?_neg s i h]

theorem pure_idx {P : Program} {t : TypeId} {o : IdxK} {x y v : AV} {xv yv : Value} (hx : VR w0 μ x xv) (hy : VR w0 μ y yv) (hi : idxI P t = some o) (h : idxS o x y = some v) :
    ∃ vc, (∀ w, (Instr.index t xv yv).run P w = .ok vc w) ∧ VR w0 μ v vc := by
  unfold idxI at hi
  split at hi
  · rename_i hu
    cases hi
    simp only [idxS, strIdxS] at h
    split at h
    · rename_i s i hn
      obtain ⟨s, rfl, rfl⟩ := hx.str_inv
      obtain ⟨kk, rfl⟩ := asNat_inv hy hn
      split at h
      · rename_i b hb
        cases h
        rw [data_get] at hb
        refine ⟨.int .u8 b.toNat, fun w => ?_, .int _ _⟩
        simp [Instr.index, run_underlying hu, asIntOf, hb]
      · cases h
    · cases h
  · rename_i len e hu
    split at hi
    · rename_i n r hn hr
      cases hi
      simp only [idxS, arrIdxS] at h
      split at h
      · rename_i cs i hi
        obtain ⟨vs, rfl, hc⟩ := hx.agg_inv
        obtain ⟨kk, rfl⟩ := asNat_inv hy hi
        split at h
        · rename_i hlt
          obtain ⟨vc, h1, h2⟩ := readT_part hr hc h
          refine ⟨vc, fun w => ?_, h2⟩
          have : ((i : Int) < (len : Int)) := by omega
          simp [Instr.index, run_underlying hu, asIntOf, hlt, run_sizeT hn, h1]
        · cases h
      · cases h
    · cases hi
  · cases hi

theorem pure_extract {x v : AV} {i : Nat} {xv : Value} (hx : VR w0 μ x xv) (h : extractS x i = some v) : ∃ vc, (∀ w, (Instr.extract xv i).run P w = .ok vc w) ∧ VR w0 μ v vc := by
  unfold extractS at h
  split at h
  · obtain ⟨vs, rfl, hc⟩ := hx.tuple_inv
    obtain ⟨vc, h1, h2⟩ := hc.get h
    exact ⟨vc, fun w => by simp [Instr.extract, h1], h2⟩
  · cases h

theorem pure_iface {t : TypeId} {x : AV} {xv : Value} (hx : VR w0 μ x xv) (h : ifaceI P t = some ()) : (∀ w, (Instr.makeInterface t xv).run P w = .ok (.iface t xv) w) ∧ VR w0 μ (.iface t x) (.iface t xv) := by
  refine ⟨fun w => ?_, .iface t x xv hx⟩
  unfold ifaceI at h
  split at h
  · cases h
  · rename_i d hd hu
    simp only [Instr.makeInterface, Sem.run_bind, run_underlying hu, Result.andThen_ok]
    cases d <;> first | rfl | (exact absurd rfl (hd _))
  · cases h

theorem fold_sim {mx : Bool} : ∀ (ys : List AV) (x v : AV) (xv : Value) (yvs : List Value), VR w0 μ x xv → VRL w0 μ ys yvs → foldS mx x ys = some v →
    ∃ vc, (∀ w, (yvs.foldlM (if mx then Builtin.max2 else Builtin.min2) xv).run P w = .ok vc w) ∧ VR w0 μ v vc := by
  intro ys
  induction ys with
  | nil =>
    intro x v xv yvs hx hy h
    obtain rfl := hy.nil_inv
    cases h
    exact ⟨xv, fun w => by simp, hx⟩
  | cons y ys ih =>
    intro x v xv yvs hx hy h
    obtain ⟨u, us, rfl, hyu, hys⟩ := hy.cons_inv
    simp only [foldS] at h
    split at h
    · rename_i v' hv'
      unfold minmax at hv'
      split at hv'
      · rename_i k a k' b
        split at hv'
        · rename_i hk
          subst hk
          cases hv'
          rw [hx.int_inv, hyu.int_inv]
          obtain ⟨vc, h1, h2⟩ := ih _ v _ us (.int _ _) hys h
          refine ⟨vc, fun w => ?_, h2⟩
          simp only [List.foldlM_cons, Sem.run_bind]
          cases mx <;> simp [Builtin.min2, Builtin.max2] <;> simpa using h1 w
        · cases hv'
      · cases hv'
    · cases h

theorem boundS_inv {x : Option AV} {xv : Option Value} {d n : Nat} (hx : (x = none ∧ xv = none) ∨ ∃ a v, x = some a ∧ xv = some v ∧ VR w0 μ a v) (h : boundS x d = some n) :
    (xv = none ∧ n = d) ∨ ∃ k, xv = some (.int k (n : Int)) := by
  rcases hx with ⟨rfl, rfl⟩ | ⟨a, v, rfl, rfl, hr⟩
  · simp [boundS] at h; exact .inl ⟨rfl, h.symm⟩
  · obtain ⟨k, rfl⟩ := asNat_inv hr h
    exact .inr ⟨k, rfl⟩

theorem run_bounds {P : Program} {isSlice : Bool} {len cap lo hi : Nat} {lov hiv : Option Value} (w : World) (h1 : (lov = none ∧ lo = 0) ∨ ∃ k, lov = some (.int k (lo : Int))) (h2 : (hiv = none ∧ hi = len) ∨ ∃ k, hiv = some (.int k (hi : Int)))
    (hl : lo ≤ hi) (hh : hi ≤ cap) : (Instr.sliceBounds isSlice len cap lov hiv none).run P w = .ok (lo, hi, cap) w := by
  have e1 : (0 : Int) ≤ (lo : Int) ∧ (lo : Int) ≤ (hi : Int) := by omega
  have e2 : (0 : Int) ≤ (hi : Int) ∧ (hi : Int) ≤ (cap : Int) := by omega
  rcases h1 with ⟨rfl, rfl⟩ | ⟨k1, rfl⟩ <;> rcases h2 with ⟨rfl, rfl⟩ | ⟨k2, rfl⟩ <;> simp [Instr.sliceBounds, Instr.sliceBound, asIntOf, e1, e2, hl, hh]

theorem extract_toList (s : ByteArray) (lo hi : Nat) (hl : lo ≤ hi) (hh : hi ≤ s.size) : (s.extract lo hi).data.toList = (s.data.toList.take hi).drop lo := by
  simp only [ByteArray.data_extract, Array.toList_extract]
  rw [List.extract_eq_take_drop, List.drop_take]

theorem pure_slice {P : Program} {t : TypeId} {i : Option Nat} {x v : AV} {xv : Value} {lo hi : Option AV} {lov hiv : Option Value} (hx : VR w0 μ x xv)
    (hlo : (lo = none ∧ lov = none) ∨ ∃ a v, lo = some a ∧ lov = some v ∧ VR w0 μ a v) (hhi : (hi = none ∧ hiv = none) ∨ ∃ a v, hi = some a ∧ hiv = some v ∧ VR w0 μ a v)
    (hi' : sliceI P t = some i) (h : sliceS i x lo hi = some v) : ∃ vc, (∀ w, (Instr.sliceAt t xv lov hiv none).run P w = .ok vc w) ∧ VR w0 μ v vc := by
  unfold sliceS at h
  split at h
  · cases h
  · rename_i len hlen
    split at h
    · rename_i hi1 lo1 hb1 hb2
      split at h
      · rename_i hc
        simp only [Bool.and_eq_true, decide_eq_true_eq] at hc
        have b1 := boundS_inv hhi hb1
        have b2 := boundS_inv hlo hb2
        unfold sliceI at hi'
        split at hi'
        · rename_i hu
          cases hi'
          cases x <;> simp only [reduceCtorEq, Option.some.injEq] at h
          rename_i l
          subst h
          obtain ⟨s, rfl, rfl⟩ := hx.str_inv
          have hl : hi1 ≤ s.size := by
            simp only [lenA, Option.some.injEq] at hlen
            have : s.data.toList.length = s.size := by rw [Array.length_toList]; rfl
            omega
          have b1' : (hiv = none ∧ hi1 = s.size) ∨ ∃ k, hiv = some (.int k (hi1 : Int)) := by
            rcases b1 with ⟨e1, e2⟩ | e
            · refine .inl ⟨e1, ?_⟩
              simp only [lenA, Option.some.injEq] at hlen
              have : s.data.toList.length = s.size := by rw [Array.length_toList]; rfl
              omega
            · exact .inr e
          refine ⟨.string (s.extract lo1 hi1), fun w => ?_, ?_⟩
          · simp [Instr.sliceAt, Instr.slice, run_underlying hu, run_bounds (P := P) w b2 b1' hc.1 hl]
          · rw [← extract_toList s lo1 hi1 hc.1 hl]; exact .str _
        · rename_i e hu
          split at hi'
          · rename_i sz hsz
            cases hi'
            cases x <;> simp only [reduceCtorEq, Option.some.injEq] at h
            · subst h
              simp only [lenA, Option.some.injEq] at hlen
              subst hlen
              cases hx
              obtain rfl : hi1 = 0 := by omega
              obtain rfl : lo1 = 0 := by omega
              refine ⟨.slice none 0 0, fun w => ?_, .nils⟩
              simp [Instr.sliceAt, Instr.slice, run_underlying hu, run_bounds (P := P) w b2 b1 (Nat.le_refl 0) (Nat.le_refl 0), run_sizeT hsz]
            · rename_i b off n sz'
              split at h
              · rename_i hs
                subst hs
                cases h
                simp only [lenA, Option.some.injEq] at hlen
                subst hlen
                cases hx
                rename_i cap a k hk hle ha
                refine ⟨.slice (if cap = lo1 then some a else some (a.add (lo1 * sz))) (hi1 - lo1) (cap - lo1), fun w => ?_, ?_⟩
                · have hb := run_bounds (P := P) (isSlice := true) (len := n) (cap := cap) w b2 b1 hc.1 (by omega)
                  simp [Instr.sliceAt, Instr.slice, run_underlying hu, hb, run_sizeT hsz]
                · by_cases e : cap = lo1
                  · rw [if_pos e]
                    exact .slice _ _ _ _ _ _ _ hk (by omega) (fun h0 => by omega)
                  · rw [if_neg e]
                    refine .slice _ _ _ _ _ _ _ hk (by omega) (fun h0 => ?_)
                    obtain ⟨rfl, hbd⟩ := ha (by omega)
                    refine ⟨by rw [addr_add, Nat.add_assoc], ?_⟩
                    have : (cap - lo1) * sz = cap * sz - lo1 * sz := Nat.sub_mul _ _ _
                    have h2 : lo1 * sz ≤ cap * sz := Nat.mul_le_mul_right _ (by omega)
                    omega
              · cases h
            · rename_i cs off n sz'
              split at h
              · rename_i hs
                subst hs
                cases h
                simp only [lenA, Option.some.injEq] at hlen
                subst hlen
                cases hx
                rename_i cap a g o' vs hg hv hl hr ha hle
                refine ⟨.slice (if cap = lo1 then some a else some (a.add (lo1 * sz))) (hi1 - lo1) (cap - lo1), fun w => ?_, ?_⟩
                · have hb := run_bounds (P := P) (isSlice := true) (len := n) (cap := cap) w b2 b1 hc.1 (by omega)
                  simp [Instr.sliceAt, Instr.slice, run_underlying hu, hb, run_sizeT hsz]
                · by_cases e : cap = lo1
                  · rw [if_pos e]
                    exact .islice _ _ _ _ _ _ _ _ _ hg hl hv hr (by omega) (fun h0 => by omega)
                  · rw [if_neg e]
                    refine .islice _ _ _ _ _ _ _ _ _ hg hl hv hr (by omega) (fun h0 => ?_)
                    obtain rfl := ha (by omega)
                    rw [addr_add, Nat.add_assoc]
              · cases h
          · cases hi'
        · cases hi'
      · cases h
    · cases h
end
end Go.AM
