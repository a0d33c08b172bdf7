/- What functions of the program do, as terms: printed by a program. Conditions: none. -/
import Derived.Test.YtfdanacohcffmaaGreatKu18
set_option linter.unusedVariables false
namespace Go.AM
open List Nat Bool Option
open Go Go.Proofs
noncomputable section
variable {K:Out->Heap->Bool} {h:Heap} {J:AX->St->Bool} {e:Env} {a0:AV}
noncomputable def F.dD.L0:=partOf (ai Tryz.f92) [1,1,0,1,0,0]
noncomputable def F.dD.cQ(K:Out->Heap->Bool):=(bg 0 (cX false (EV (partOf (ai Tryz.f92) [1,1,1])) (RL Tryz.f92 K)))
noncomputable def F.dD.L1:=partOf (ai Tryz.f92) [1,1,0,1,0,0,1,1,0,0,1,1,0,0]
noncomputable def F.dD.jU(J:AX->St->Bool):=(bg 2 (bg 1 (cX false (EV (partOf (ai Tryz.f92) [1,1,0,1,0,0,1,1,1])) J)))
theorem F.dD.aT:EV F.dD.L0 ⟨e,51,[],h⟩ J=(af (aF .lss (e 15) (e 14)) fun b=>ay b (af (dG 3 (e 13) (e 15)) fun f=>af (ag (some 3) f h) fun g=>af (aY 3 (.ptr (Heap.next h) 0) g (Heap.alloc h (.cells [(.str []),(.int .i64 0),.ax]))) fun c=>af (bS 2 (.ptr (Heap.next h) 0)) fun i=>af (ag none i c) fun a=>af (bU .slice a c) fun d=>bW (EV F.dD.L1) ⟨(aa (aa (aa (aa (aa (aa (aa (aa (aa (aa e 16 b) 17 (e 15)) 18 f) 19 g) 7 (.ptr (Heap.next h) 0)) 6 (e 15)) 20 i) 21 a) 22 d) 23 (.int .i64 0)),51,[],c⟩ (F.dD.jU J)) (J (.exit 0) ⟨(aa e 16 b),51,[],h⟩)):=by kernel_rfl
theorem F.dD.aG:F.dD.cQ K (.exit 0) ⟨e,51,[],h⟩=(K (.ret (e 5)) h):=by kernel_rfl
theorem F.dD.dh:EV F.dD.L1 ⟨e,51,[],h⟩ J=(af (aF .lss (e 23) (e 22)) fun p=>let Q1:=(aa e 24 p);ay p (af (dG 1 (e 21) (e 23)) fun f=>af (ag none f h) fun a=>af (bS 1 (e 3)) fun g=>af (ag none g h) fun i=>af (dG 3 i (e 6)) fun j=>af (bS 2 j) fun k=>af (ag none k h) fun l=>aA TP 54 [l,a,(.func 55 [] [])] h (bJ (fun b m=>af (bx b 0) fun q=>af (bx b 1) fun c=>af (kr .not c) fun r=>let Q2:=(aa (aa (aa (aa (aa (aa (aa (aa (aa (aa (aa (aa (aa (aa (aa (aa (aa (aa Q1 25 f) 26 a) 9 a) 28 g) 29 i) 30 (e 6)) 31 j) 32 k) 33 l) 34 a) 35 b) 27 b) 36 q) 37 c) 10 q) 11 c) 38 c) 39 r);ay r (af (bS 0 (e 7)) fun n=>af (ag none n m) fun o=>aA TP 49 [a] m (bJ (fun s d=>if ((af (ag none n d) fun x=>AV.beq x o)&&true)=true then (af (iy [(.str []),.ax] [(0,1),(1,1)] [o,s]) fun t=>af (fS [(.str []),.ax] [(0,2)] [t]) fun y=>cZ (b6 2 40 (e 5) (.slice (Heap.next d) 0 1 2) (Heap.alloc d (.cells y))) fun u z=>af (aF .add (e 23) (.int .i64 1)) fun v=>J .normal ⟨(aa (aa (aa (aa (aa (aa (aa (aa (aa (aa (aa Q2 40 (e 5)) 41 n) 42 o) 43 a) 44 s) 45 t) 46 (.slice (Heap.next d) 0 1 2)) 47 u) 5 u) 48 v) 23 v),51,[],z⟩) else false) (fun _ _=>false))) (af (aF .add (e 23) (.int .i64 1)) fun w=>J .normal ⟨(aa (aa Q2 48 w) 23 w),51,[],m⟩)) (fun A B=>J (.panic A) ⟨(aa (aa (aa (aa (aa (aa (aa (aa (aa (aa Q1 25 f) 26 a) 9 a) 28 g) 29 i) 30 (e 6)) 31 j) 32 k) 33 l) 34 a),51,[],B⟩))) (J (.exit 2) ⟨Q1,51,[],h⟩)):=by kernel_rfl
theorem F.dD.cx:F.dD.jU J (.exit 2) ⟨e,51,[],h⟩=(af (aF .add (e 15) (.int .i64 1)) fun a=>J .normal ⟨(aa (aa e 49 a) 15 a),51,[],h⟩):=by kernel_rfl
theorem F.GY{a1:AV}:EV (ai Tryz.f92) ⟨aC [a0,a1],51,[],h⟩ (RL Tryz.f92 K)=(af (eX a0) fun a=>af (eX a1) fun b=>af (bS 1 (.ptr (Heap.next h) 0)) fun c=>af (ag none c (Heap.alloc (Heap.alloc h (.cells a)) (.cells b))) fun d=>af (bU .slice d (Heap.alloc (Heap.alloc h (.cells a)) (.cells b))) fun f=>bW (EV F.dD.L0) ⟨(aa (aa (aa (aa (aa (aa (aa (aa (aC [a0,a1]) 2 (.ptr (Heap.next h) 0)) 3 (.ptr (Heap.next (Heap.alloc h (.cells a))) 0)) 4 .ax) 5 .ax) 12 c) 13 d) 14 f) 15 (.int .i64 0)),51,[],(Heap.alloc (Heap.alloc h (.cells a)) (.cells b))⟩ (F.dD.cQ K)):=by kernel_rfl
theorem F.EK{a1:AV}(hh:EV (ai Tryz.f92) ⟨aC [a0,a1],51,[],h⟩ (RL Tryz.f92 K)=true):Sem TP 92 [a0,a1] h K:=
 SB Tryz.func92 rfl (by decide) (by kernel_rfl) hh
theorem F.l9:EV (ai Tryz.f117) ⟨aC [a0],8,[],h⟩ (RL Tryz.f117 K)=(af (jA (.slice 9) a0 .ax) fun a=>ay a (K (.ret .ax) h) (af (fS [] [] []) fun b=>cZ (b6 1 16 (.slice (Heap.next h) 0 0 1) a0 (Heap.alloc h (.cells b))) fun c d=>K (.ret c) d)):=by kernel_rfl
theorem F.lR(hh:EV (ai Tryz.f117) ⟨aC [a0],8,[],h⟩ (RL Tryz.f117 K)=true):Sem TP 117 [a0] h K:=
 SB Tryz.func117 rfl (by decide) (by kernel_rfl) hh
end
end Go.AM