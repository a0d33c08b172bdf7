/- What functions of the program do, as terms: printed by a program. Conditions: none. -/
import Derived.Test.YtfdanacohcffmaaGreatKd18
set_option linter.unusedVariables false
namespace Go.AM
open List Nat Bool Option
open Go Go.Proofs
noncomputable section
variable {K:Out->Heap->Bool} {h:Heap} {J:AX->St->Bool} {a0 a1:AV} {e:Env}
noncomputable def F.dM.L0:=partOf (ah Tryz.f92) [1,1,0,1,0,0]
noncomputable def F.dM.cR(K:Out->Heap->Bool):=(aX 0 (cQ false (EV (partOf (ah Tryz.f92) [1,1,1])) (RL Tryz.f92 K)))
noncomputable def F.dM.L1:=partOf (ah Tryz.f92) [1,1,0,1,0,0,1,1,0,0,1,1,0,0]
noncomputable def F.dM.jF(J:AX->St->Bool):=(aX 2 (aX 1 (cQ false (EV (partOf (ah Tryz.f92) [1,1,0,1,0,0,1,1,1])) J)))
theorem F.dM.aT:EV F.dM.L0 ⟨e,51,[],h⟩ J=(af (aG .lss (e 15) (e 14)) fun b=>ay b (af (dN 3 (e 13) (e 15)) fun f=>af (ag (some 3) f h) fun g=>af (bf 3 (.ptr (Heap.next h) 0) g (Heap.alloc h (.cells [(.str []),(.int .i64 0),.ax]))) fun c=>af (bT 2 (.ptr (Heap.next h) 0)) fun i=>af (ag none i c) fun a=>af (bX .slice a c) fun d=>bV (EV F.dM.L1) ⟨(aa (aa (aa (aa (aa (aa (aa (aa (aa (aa e 16 b) 17 (e 15)) 18 f) 19 g) 7 (.ptr (Heap.next h) 0)) 6 (e 15)) 20 i) 21 a) 22 d) 23 (.int .i64 0)),51,[],c⟩ (F.dM.jF J)) (J (.exit 0) ⟨(aa e 16 b),51,[],h⟩)):=by kernel_rfl
theorem F.dM.aF:F.dM.cR K (.exit 0) ⟨e,51,[],h⟩=(K (.ret (e 5)) h):=by kernel_rfl
theorem F.dM.dm:EV F.dM.L1 ⟨e,51,[],h⟩ J=(af (aG .lss (e 23) (e 22)) fun p=>let Q1:=(aa e 24 p);ay p (af (dN 1 (e 21) (e 23)) fun f=>af (ag none f h) fun a=>af (bT 1 (e 3)) fun g=>af (ag none g h) fun i=>af (dN 3 i (e 6)) fun j=>af (bT 2 j) fun k=>af (ag none k h) fun l=>aB TP 54 [l,a,(.func 55 [] [])] h (bK (fun b m=>af (bD b 0) fun q=>af (bD b 1) fun c=>af (lU .not c) fun r=>let Q2:=(aa (aa (aa (aa (aa (aa (aa (aa (aa (aa (aa (aa (aa (aa (aa (aa (aa (aa Q1 25 f) 26 a) 9 a) 28 g) 29 i) 30 (e 6)) 31 j) 32 k) 33 l) 34 a) 35 b) 27 b) 36 q) 37 c) 10 q) 11 c) 38 c) 39 r);ay r (af (bT 0 (e 7)) fun n=>af (ag none n m) fun o=>aB TP 49 [a] m (bK (fun s d=>if ((af (ag none n d) fun x=>AV.beq x o)&&true)=true then (af (iD [(.str []),.ax] [(0,1),(1,1)] [o,s]) fun t=>af (fB [(.str []),.ax] [(0,2)] [t]) fun y=>cX (bY 2 40 (e 5) (.slice (Heap.next d) 0 1 2) (Heap.alloc d (.cells y))) fun u z=>af (aG .add (e 23) (.int .i64 1)) fun v=>J .normal ⟨(aa (aa (aa (aa (aa (aa (aa (aa (aa (aa (aa Q2 40 (e 5)) 41 n) 42 o) 43 a) 44 s) 45 t) 46 (.slice (Heap.next d) 0 1 2)) 47 u) 5 u) 48 v) 23 v),51,[],z⟩) else false) (fun _ _=>false))) (af (aG .add (e 23) (.int .i64 1)) fun w=>J .normal ⟨(aa (aa Q2 48 w) 23 w),51,[],m⟩)) (fun A B=>J (.panic A) ⟨(aa (aa (aa (aa (aa (aa (aa (aa (aa (aa Q1 25 f) 26 a) 9 a) 28 g) 29 i) 30 (e 6)) 31 j) 32 k) 33 l) 34 a),51,[],B⟩))) (J (.exit 2) ⟨Q1,51,[],h⟩)):=by kernel_rfl
theorem F.dM.cq:F.dM.jF J (.exit 2) ⟨e,51,[],h⟩=(af (aG .add (e 15) (.int .i64 1)) fun a=>J .normal ⟨(aa (aa e 49 a) 15 a),51,[],h⟩):=by kernel_rfl
theorem F.HV:EV (ah Tryz.f92) ⟨aE [a0,a1],51,[],h⟩ (RL Tryz.f92 K)=(af (eW a0) fun a=>af (eW a1) fun b=>af (bT 1 (.ptr (Heap.next h) 0)) fun c=>af (ag none c (Heap.alloc (Heap.alloc h (.cells a)) (.cells b))) fun d=>af (bX .slice d (Heap.alloc (Heap.alloc h (.cells a)) (.cells b))) fun f=>bV (EV F.dM.L0) ⟨(aa (aa (aa (aa (aa (aa (aa (aa (aE [a0,a1]) 2 (.ptr (Heap.next h) 0)) 3 (.ptr (Heap.next (Heap.alloc h (.cells a))) 0)) 4 .ax) 5 .ax) 12 c) 13 d) 14 f) 15 (.int .i64 0)),51,[],(Heap.alloc (Heap.alloc h (.cells a)) (.cells b))⟩ (F.dM.cR K)):=by kernel_rfl
theorem F.FC(hh:EV (ah Tryz.f92) ⟨aE [a0,a1],51,[],h⟩ (RL Tryz.f92 K)=true):Sem TP 92 [a0,a1] h K:=
 SB Tryz.func92 rfl (by decide) (by kernel_rfl) hh
theorem F.mR:EV (ah Tryz.f117) ⟨aE [a0],8,[],h⟩ (RL Tryz.f117 K)=(af (jK (.slice 9) a0 .ax) fun a=>ay a (K (.ret .ax) h) (af (fB [] [] []) fun b=>cX (bY 1 16 (.slice (Heap.next h) 0 0 1) a0 (Heap.alloc h (.cells b))) fun c d=>K (.ret c) d)):=by kernel_rfl
theorem F.mI(hh:EV (ah Tryz.f117) ⟨aE [a0],8,[],h⟩ (RL Tryz.f117 K)=true):Sem TP 117 [a0] h K:=
 SB Tryz.func117 rfl (by decide) (by kernel_rfl) hh
theorem F.An{a2 a3:AV}:EV (ah Tryz.f119) ⟨aE [a0,a1,a2,a3],14,[],h⟩ (RL Tryz.f119 K)=(af (bT 5 a1) fun f=>af (ag none f h) fun g=>af (ag none a2 h) fun c=>aB TP 121 [a0,g] h (bK (fun i d=>if ((af (ag none a2 d) fun j=>AV.beq j c)&&true)=true then (aB TP 120 [i,c] d (bK (fun k a=>ay k (af (ag none a3 a) fun l=>af (aG .add l (.int .i64 1)) fun m=>af (bf 1 a3 m a) fun b=>K (.ret (.bool true)) b) (K (.ret (.bool true)) a)) (fun _ _=>false))) else false) (fun _ _=>false))):=by kernel_rfl
theorem F.zh{a2 a3:AV}(hh:EV (ah Tryz.f119) ⟨aE [a0,a1,a2,a3],14,[],h⟩ (RL Tryz.f119 K)=true):Sem TP 119 [a0,a1,a2,a3] h K:=
 SB Tryz.func119 rfl (by decide) (by kernel_rfl) hh
end
end Go.AM