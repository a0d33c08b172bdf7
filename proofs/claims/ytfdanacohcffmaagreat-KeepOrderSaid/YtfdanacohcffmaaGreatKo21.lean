/- What functions of the program do, as terms: printed by a program. Conditions: none. -/
import Derived.Test.YtfdanacohcffmaaGreatKo18
set_option linter.unusedVariables false
namespace Go.AM
open List Nat Bool Option
open Go Go.Proofs
noncomputable section
variable {K:Out->Heap->Bool} {h:Heap} {J:AX->St->Bool} {e:Env} {a0:AV}
noncomputable def F.dH.L0:=partOf (aj Tryz.f92) [1,1,0,1,0,0]
noncomputable def F.dH.cS(K:Out->Heap->Bool):=(bg 0 (cY false (EV (partOf (aj Tryz.f92) [1,1,1])) (RL Tryz.f92 K)))
noncomputable def F.dH.L1:=partOf (aj Tryz.f92) [1,1,0,1,0,0,1,1,0,0,1,1,0,0]
noncomputable def F.dH.jP(J:AX->St->Bool):=(bg 2 (bg 1 (cY false (EV (partOf (aj Tryz.f92) [1,1,0,1,0,0,1,1,1])) J)))
theorem F.dH.aU:EV F.dH.L0 ⟨e,51,[],h⟩ J=(ag (aI .lss (e 15) (e 14)) fun b=>aA b (ag (dM 3 (e 13) (e 15)) fun f=>ag (ah (some 3) f h) fun g=>ag (aZ 3 (.ptr (Heap.next h) 0) g (Heap.alloc h (.cells [(.str []),(.int .i64 0),.ay]))) fun c=>ag (bT 2 (.ptr (Heap.next h) 0)) fun i=>ag (ah none i c) fun a=>ag (bX .slice a c) fun d=>bV (EV F.dH.L1) ⟨(af (af (af (af (af (af (af (af (af (af e 16 b) 17 (e 15)) 18 f) 19 g) 7 (.ptr (Heap.next h) 0)) 6 (e 15)) 20 i) 21 a) 22 d) 23 (.int .i64 0)),51,[],c⟩ (F.dH.jP J)) (J (.exit 0) ⟨(af e 16 b),51,[],h⟩)):=by kernel_rfl
theorem F.dH.aG:F.dH.cS K (.exit 0) ⟨e,51,[],h⟩=(K (.ret (e 5)) h):=by kernel_rfl
theorem F.dH.dm:EV F.dH.L1 ⟨e,51,[],h⟩ J=(ag (aI .lss (e 23) (e 22)) fun p=>let Q1:=(af e 24 p);aA p (ag (dM 1 (e 21) (e 23)) fun f=>ag (ah none f h) fun a=>ag (bT 1 (e 3)) fun g=>ag (ah none g h) fun i=>ag (dM 3 i (e 6)) fun j=>ag (bT 2 j) fun k=>ag (ah none k h) fun l=>aC TP 54 [l,a,(.func 55 [] [])] h (bK (fun b m=>ag (bI b 0) fun q=>ag (bI b 1) fun c=>ag (kX .not c) fun r=>let Q2:=(af (af (af (af (af (af (af (af (af (af (af (af (af (af (af (af (af (af Q1 25 f) 26 a) 9 a) 28 g) 29 i) 30 (e 6)) 31 j) 32 k) 33 l) 34 a) 35 b) 27 b) 36 q) 37 c) 10 q) 11 c) 38 c) 39 r);aA r (ag (bT 0 (e 7)) fun n=>ag (ah none n m) fun o=>aC TP 49 [a] m (bK (fun s d=>if ((ag (ah none n d) fun x=>AV.beq x o)&&true)=true then (ag (iA [(.str []),.ay] [(0,1),(1,1)] [o,s]) fun t=>ag (fZ [(.str []),.ay] [(0,2)] [t]) fun y=>dg (cj 2 40 (e 5) (.slice (Heap.next d) 0 1 2) (Heap.alloc d (.cells y))) fun u z=>ag (aI .add (e 23) (.int .i64 1)) fun v=>J .normal ⟨(af (af (af (af (af (af (af (af (af (af (af Q2 40 (e 5)) 41 n) 42 o) 43 a) 44 s) 45 t) 46 (.slice (Heap.next d) 0 1 2)) 47 u) 5 u) 48 v) 23 v),51,[],z⟩) else false) (fun _ _=>false))) (ag (aI .add (e 23) (.int .i64 1)) fun w=>J .normal ⟨(af (af Q2 48 w) 23 w),51,[],m⟩)) (fun A B=>J (.panic A) ⟨(af (af (af (af (af (af (af (af (af (af Q1 25 f) 26 a) 9 a) 28 g) 29 i) 30 (e 6)) 31 j) 32 k) 33 l) 34 a),51,[],B⟩))) (J (.exit 2) ⟨Q1,51,[],h⟩)):=by kernel_rfl
theorem F.dH.cx:F.dH.jP J (.exit 2) ⟨e,51,[],h⟩=(ag (aI .add (e 15) (.int .i64 1)) fun a=>J .normal ⟨(af (af e 49 a) 15 a),51,[],h⟩):=by kernel_rfl
theorem F.GK{a1:AV}:EV (aj Tryz.f92) ⟨aD [a0,a1],51,[],h⟩ (RL Tryz.f92 K)=(ag (eY a0) fun a=>ag (eY a1) fun b=>ag (bT 1 (.ptr (Heap.next h) 0)) fun c=>ag (ah none c (Heap.alloc (Heap.alloc h (.cells a)) (.cells b))) fun d=>ag (bX .slice d (Heap.alloc (Heap.alloc h (.cells a)) (.cells b))) fun f=>bV (EV F.dH.L0) ⟨(af (af (af (af (af (af (af (af (aD [a0,a1]) 2 (.ptr (Heap.next h) 0)) 3 (.ptr (Heap.next (Heap.alloc h (.cells a))) 0)) 4 .ay) 5 .ay) 12 c) 13 d) 14 f) 15 (.int .i64 0)),51,[],(Heap.alloc (Heap.alloc h (.cells a)) (.cells b))⟩ (F.dH.cS K)):=by kernel_rfl
theorem F.EC{a1:AV}(hh:EV (aj Tryz.f92) ⟨aD [a0,a1],51,[],h⟩ (RL Tryz.f92 K)=true):Sem TP 92 [a0,a1] h K:=
 SB Tryz.func92 rfl (by decide) (by kernel_rfl) hh
theorem F.mq:EV (aj Tryz.f117) ⟨aD [a0],8,[],h⟩ (RL Tryz.f117 K)=(ag (jC (.slice 9) a0 .ay) fun a=>aA a (K (.ret .ay) h) (ag (fZ [] [] []) fun b=>dg (cj 1 16 (.slice (Heap.next h) 0 0 1) a0 (Heap.alloc h (.cells b))) fun c d=>K (.ret c) d)):=by kernel_rfl
theorem F.lX(hh:EV (aj Tryz.f117) ⟨aD [a0],8,[],h⟩ (RL Tryz.f117 K)=true):Sem TP 117 [a0] h K:=
 SB Tryz.func117 rfl (by decide) (by kernel_rfl) hh
end
end Go.AM