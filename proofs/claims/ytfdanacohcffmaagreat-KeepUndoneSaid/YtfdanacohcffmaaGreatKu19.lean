/- Parts of the proof. Conditions: none. -/
import Derived.Test.YtfdanacohcffmaaGreatKu18
set_option linter.unusedVariables false
namespace Go.AM
open List Nat Bool Option
open Go Go.Proofs
noncomputable section
variable {K:Out->Heap->Bool} {h:Heap} {J:AX->St->Bool} {e:Env} {a0 a1 a2:AV}
noncomputable def F.bY.L0:=partOf (ai Tryz.f42) [1,1,0,1,0,0]
noncomputable def F.bY.cQ(K:Out->Heap->Bool):=(bg 0 (cX false (EV (partOf (ai Tryz.f42) [1,1,1])) (RL Tryz.f42 K)))
noncomputable def F.bY.L1:=partOf (ai Tryz.f42) [1,1,0,1,0,0,1,0,0,1,1,0,0]
noncomputable def F.bY.jU(J:AX->St->Bool):=(bg 2 (bg 1 (cX false (EV (partOf (ai Tryz.f42) [1,1,0,1,0,0,1,1])) J)))
noncomputable def F.bY.L2:=partOf (ai Tryz.f42) [1,1,0,1,0,0,1,0,0,1,1,0,0,1,0,0,1,1,1,0,0]
noncomputable def F.bY.yN(J:AX->St->Bool):=(bg 4 (bg 3 (cX false (EV (partOf (ai Tryz.f42) [1,1,0,1,0,0,1,0,0,1,1,0,0,1,1])) J)))
theorem F.bY.aT:EV F.bY.L0 ⟨e,89,[],h⟩ J=(af (bU .slice (e 0) h) fun a=>af (aF .lss (e 5) a) fun b=>let Q1:=(aa (aa (aa (aa e 8 (e 5)) 9 (e 0)) 10 a) 11 b);ay b (af (dG 2 (e 0) (e 5)) fun c=>af (bS 1 c) fun d=>af (ag none d h) fun f=>af (bU .slice f h) fun g=>af (aF .gtr g (.int .i64 12)) fun i=>let Q2:=(aa (aa (aa (aa (aa (aa (aa Q1 14 (e 0)) 15 (e 5)) 16 c) 17 d) 18 f) 19 g) 20 i);ay i (J .ret ⟨(aa Q2 2 (.bool false)),89,[],h⟩) (bW (EV F.bY.L1) ⟨(aa Q2 6 (.int .i64 0)),89,[],h⟩ (F.bY.jU J))) (J (.exit 0) ⟨Q1,89,[],h⟩)):=by kernel_rfl
theorem F.bY.aG:F.bY.cQ K (.exit 0) ⟨e,89,[],h⟩=(af (aF .leq (e 4) (.int .i64 20000)) fun a=>K (.ret a) h):=by kernel_rfl
theorem F.bY.bC:F.bY.cQ K .ret ⟨e,89,[],h⟩=(K (.ret (e 2)) h):=by kernel_rfl
theorem F.bY.dh:EV F.bY.L1 ⟨e,89,[],h⟩ J=(af (dG 2 (e 0) (e 5)) fun w=>af (bS 1 w) fun x=>af (ag none x h) fun d=>af (bU .slice d h) fun f=>af (aF .lss (e 6) f) fun g=>let Q1:=(aa (aa (aa (aa (aa (aa (aa (aa e 21 (e 6)) 22 (e 0)) 23 (e 5)) 24 w) 25 x) 26 d) 27 f) 28 g);ay g (af (dG 2 (e 0) (e 5)) fun i=>af (bS 1 i) fun j=>af (ag none j h) fun k=>af (dG 3 k (e 6)) fun l=>af (bS 2 l) fun m=>af (ag none m h) fun n=>af (bU .slice n h) fun o=>af (aF .add (e 3) o) fun a=>af (aF .gtr a (.int .i64 1500)) fun b=>let Q2:=(aa (aa (aa (aa (aa (aa (aa (aa (aa (aa (aa (aa (aa (aa (aa (aa Q1 31 (e 3)) 32 (e 0)) 33 (e 5)) 34 i) 35 j) 36 k) 37 (e 6)) 38 l) 39 m) 40 n) 41 o) 42 a) 3 a) 43 a) 44 b) 45 b);ay b (J .ret ⟨(aa (aa (aa (aa (aa (aa (aa (aa (aa (aa (aa (aa (aa (aa (aa (aa (aa (aa (aa (aa (aa (aa (aa (aa Q2 45 (.bool true)) 46 bI) 45 (.bool true)) 47 bI) 45 (.bool true)) 48 bI) 45 (.bool true)) 49 bI) 45 (.bool true)) 50 bI) 45 (.bool true)) 51 bI) 45 (.bool true)) 52 bI) 45 (.bool true)) 53 bI) 45 (.bool true)) 54 bI) 45 (.bool true)) 55 bI) 45 (.bool true)) 56 bI) 57 (.bool true)) 2 (.bool false)),89,[],h⟩) (af (dG 2 (e 0) (e 5)) fun p=>af (bS 1 p) fun q=>af (ag none q h) fun r=>af (dG 3 r (e 6)) fun s=>af (bS 0 s) fun t=>af (ag none t h) fun u=>af (bU .str u h) fun v=>af (aF .gtr v (.int .i64 1000)) fun c=>let Q3:=(aa (aa (aa (aa (aa (aa (aa (aa (aa (aa (aa (aa (aa (aa (aa (aa (aa (aa (aa (aa (aa (aa (aa Q2 45 (.bool false)) 46 (e 0)) 45 (.bool false)) 47 (e 5)) 45 (.bool false)) 48 p) 45 (.bool false)) 49 q) 45 (.bool false)) 50 r) 45 (.bool false)) 51 (e 6)) 45 (.bool false)) 52 s) 45 (.bool false)) 53 t) 45 (.bool false)) 54 u) 45 (.bool false)) 55 v) 45 (.bool false)) 56 c) 57 c);ay c (J .ret ⟨(aa Q3 2 (.bool false)),89,[],h⟩) (bW (EV F.bY.L2) ⟨(aa Q3 7 (.int .i64 0)),89,[],h⟩ (F.bY.yN J)))) (J (.exit 2) ⟨Q1,89,[],h⟩)):=by kernel_rfl
theorem F.bY.cx:F.bY.jU J (.exit 2) ⟨e,89,[],h⟩=(af (aF .add (e 5) (.int .i64 1)) fun a=>J .normal ⟨(aa (aa (aa e 12 (e 5)) 13 a) 5 a),89,[],h⟩):=by kernel_rfl
theorem F.bY.jC:F.bY.jU J .ret ⟨e,89,[],h⟩=(J .ret ⟨e,89,[],h⟩):=by kernel_rfl
theorem F.bY.mg:EV F.bY.L2 ⟨e,89,[],h⟩ J=(af (dG 2 (e 0) (e 5)) fun a=>af (bS 1 a) fun b=>af (ag none b h) fun c=>af (dG 3 c (e 6)) fun d=>af (bS 2 d) fun f=>af (ag none f h) fun g=>af (bU .slice g h) fun i=>af (aF .lss (e 7) i) fun j=>let Q1:=(aa (aa (aa (aa (aa (aa (aa (aa (aa (aa (aa (aa e 58 (e 7)) 59 (e 0)) 60 (e 5)) 61 a) 62 b) 63 c) 64 (e 6)) 65 d) 66 f) 67 g) 68 i) 69 j);ay j (af (dG 2 (e 0) (e 5)) fun k=>af (bS 1 k) fun l=>af (ag none l h) fun m=>af (dG 3 m (e 6)) fun n=>af (bS 2 n) fun o=>af (ag none o h) fun p=>af (dG 1 p (e 7)) fun q=>af (ag none q h) fun r=>af (bU .slice r h) fun s=>af (aF .add (e 4) s) fun t=>af (aF .add (e 7) (.int .i64 1)) fun u=>J .normal ⟨(aa (aa (aa (aa (aa (aa (aa (aa (aa (aa (aa (aa (aa (aa (aa (aa (aa (aa (aa Q1 72 (e 4)) 73 (e 0)) 74 (e 5)) 75 k) 76 l) 77 m) 78 (e 6)) 79 n) 80 o) 81 p) 82 (e 7)) 83 q) 84 r) 85 s) 86 t) 4 t) 70 (e 7)) 71 u) 7 u),89,[],h⟩) (J (.exit 4) ⟨Q1,89,[],h⟩)):=by kernel_rfl
theorem F.bY.iU:F.bY.yN J (.exit 4) ⟨e,89,[],h⟩=(af (aF .add (e 6) (.int .i64 1)) fun a=>J .normal ⟨(aa (aa (aa e 29 (e 6)) 30 a) 6 a),89,[],h⟩):=by kernel_rfl
theorem F.GQ:EV (ai Tryz.f42) ⟨aC [a0],89,[],h⟩ (RL Tryz.f42 K)=(bW (EV F.bY.L0) ⟨(aa (aa (aa (aa (aC [a0]) 2 (.bool false)) 3 (.int .i64 0)) 4 (.int .i64 0)) 5 (.int .i64 0)),89,[],h⟩ (F.bY.cQ K)):=by kernel_rfl
theorem F.Ey(hh:EV (ai Tryz.f42) ⟨aC [a0],89,[],h⟩ (RL Tryz.f42 K)=true):Sem TP 42 [a0] h K:=
 SB Tryz.func42 rfl (by decide) (by kernel_rfl) hh
noncomputable def F.cm.L0:=partOf (ai Tryz.f66) [1,1,0,1,0,0]
noncomputable def F.cm.cQ(K:Out->Heap->Bool):=(bg 0 (cX false (EV (partOf (ai Tryz.f66) [1,1,1])) (RL Tryz.f66 K)))
noncomputable def F.cm.L1:=partOf (ai Tryz.f66) [1,1,0,1,0,0,1,0,0,1,1,0,0]
noncomputable def F.cm.jU(J:AX->St->Bool):=(bg 2 (bg 1 (cX false (EV (partOf (ai Tryz.f66) [1,1,0,1,0,0,1,1])) J)))
theorem F.cm.aT:EV F.cm.L0 ⟨e,53,[],h⟩ J=(af (bS 1 (e 1)) fun a=>af (ag none a h) fun b=>af (bU .slice b h) fun c=>af (aF .lss (e 3) c) fun d=>let Q1:=(aa (aa (aa (aa (aa e 19 (e 3)) 20 a) 21 b) 22 c) 23 d);ay d (af (bS 0 (e 1)) fun f=>af (ag none f h) fun g=>af (bS 1 (e 1)) fun i=>af (ag none i h) fun j=>af (dG 3 j (e 3)) fun k=>af (ag (some 3) k h) fun l=>aA TP 115 [g,l] h (bJ (fun m n=>af (kr .not m) fun o=>let Q2:=(aa (aa (aa (aa (aa (aa (aa (aa (aa Q1 26 f) 27 g) 28 i) 29 j) 30 (e 3)) 31 k) 32 l) 33 m) 34 o);ay o (J .ret ⟨(aa Q2 2 (.bool false)),53,[],n⟩) (bW (EV F.cm.L1) ⟨(aa Q2 4 (.int .i64 0)),53,[],n⟩ (F.cm.jU J))) (fun _ _=>false))) (J (.exit 0) ⟨Q1,53,[],h⟩)):=by kernel_rfl
theorem F.cm.aG:F.cm.cQ K (.exit 0) ⟨e,53,[],h⟩=(K (.ret (.bool true)) h):=by kernel_rfl
theorem F.cm.bC:F.cm.cQ K .ret ⟨e,53,[],h⟩=(K (.ret (e 2)) h):=by kernel_rfl
theorem F.cm.dh:EV F.cm.L1 ⟨e,53,[],h⟩ J=(af (aF .lss (e 4) (e 3)) fun a=>let Q1:=(aa (aa (aa e 35 (e 4)) 36 (e 3)) 37 a);ay a (af (bS 1 (e 1)) fun b=>af (ag none b h) fun c=>af (dG 3 c (e 4)) fun d=>af (bS 0 d) fun f=>af (ag none f h) fun g=>af (bS 1 (e 1)) fun i=>af (ag none i h) fun j=>af (dG 3 j (e 3)) fun k=>af (bS 0 k) fun l=>af (ag none l h) fun m=>af (jA .string g m) fun n=>let Q2:=(aa (aa (aa (aa (aa (aa (aa (aa (aa (aa (aa (aa (aa Q1 40 b) 41 c) 42 (e 4)) 43 d) 44 f) 45 g) 46 i) 47 j) 48 (e 3)) 49 k) 50 l) 51 m) 52 n);ay n (J .ret ⟨(aa Q2 2 (.bool false)),53,[],h⟩) (af (aF .add (e 4) (.int .i64 1)) fun o=>J .normal ⟨(aa (aa (aa Q2 38 (e 4)) 39 o) 4 o),53,[],h⟩)) (J (.exit 2) ⟨Q1,53,[],h⟩)):=by kernel_rfl
theorem F.cm.cx:F.cm.jU J (.exit 2) ⟨e,53,[],h⟩=(af (aF .add (e 3) (.int .i64 1)) fun a=>J .normal ⟨(aa (aa (aa e 24 (e 3)) 25 a) 3 a),53,[],h⟩):=by kernel_rfl
theorem F.cm.jC:F.cm.jU J .ret ⟨e,53,[],h⟩=(J .ret ⟨e,53,[],h⟩):=by kernel_rfl
theorem F.CJ:EV (ai Tryz.f66) ⟨aC [a0],53,[],h⟩ (RL Tryz.f66 K)=(af (eX a0) fun a=>af (bS 0 (.ptr (Heap.next h) 0)) fun f=>af (ag none f (Heap.alloc h (.cells a))) fun g=>af (aF .lss g (.int .i64 1)) fun d=>ay d (K (.ret (.bool false)) (Heap.alloc h (.cells a))) (af (bS 0 (.ptr (Heap.next h) 0)) fun i=>af (ag none i (Heap.alloc h (.cells a))) fun j=>af (aF .gtr j (.int .i64 64)) fun c=>ay c (K (.ret (.bool false)) (Heap.alloc h (.cells a))) (af (bS 1 (.ptr (Heap.next h) 0)) fun k=>af (ag none k (Heap.alloc h (.cells a))) fun l=>af (bU .slice l (Heap.alloc h (.cells a))) fun m=>af (aF .gtr m (.int .i64 8)) fun b=>ay b (K (.ret (.bool false)) (Heap.alloc h (.cells a))) (bW (EV F.cm.L0) ⟨(aa (aa (aa (aa (aa (aa (aa (aa (aa (aa (aa (aa (aa (aa (aa (aa (aa (aa (aa (aa (aa (aa (aa (aa (aC [a0]) 1 (.ptr (Heap.next h) 0)) 2 (.bool false)) 5 f) 6 g) 7 d) 8 d) 8 (.bool false)) 9 i) 8 (.bool false)) 10 j) 8 (.bool false)) 11 c) 12 c) 13 c) 13 (.bool false)) 14 k) 13 (.bool false)) 15 l) 13 (.bool false)) 16 m) 13 (.bool false)) 17 b) 18 b) 3 (.int .i64 0)),53,[],(Heap.alloc h (.cells a))⟩ (F.cm.cQ K))))):=by kernel_rfl
theorem F.A0(hh:EV (ai Tryz.f66) ⟨aC [a0],53,[],h⟩ (RL Tryz.f66 K)=true):Sem TP 66 [a0] h K:=
 SB Tryz.func66 rfl (by decide) (by kernel_rfl) hh
noncomputable def F.eT.L0:=partOf (ai Tryz.f67) [1,0,1,0,0]
noncomputable def F.eT.cQ(K:Out->Heap->Bool):=(bg 0 (cX false (EV (partOf (ai Tryz.f67) [1,1])) (RL Tryz.f67 K)))
theorem F.eT.aT:EV F.eT.L0 ⟨e,36,[],h⟩ J=(af (bU .slice (e 1) h) fun p=>af (aF .lss (e 5) p) fun q=>let Q1:=(aa (aa (aa (aa e 7 (e 5)) 8 (e 1)) 9 p) 10 q);ay q (af (ag (some 2) (e 2) h) fun r=>af (dG 2 (e 1) (e 5)) fun s=>af (bS 0 s) fun t=>af (ag none t h) fun u=>aA TP 69 [r,u] h (bJ (fun b c=>af (aF .lss b (.int .i64 0)) fun o=>let Q2:=(aa (aa (aa (aa (aa (aa (aa (aa (aa (aa (aa Q1 13 r) 14 (e 1)) 15 (e 5)) 16 s) 17 t) 18 u) 19 b) 6 b) 20 b) 21 o) 22 o);ay o (J .ret ⟨(aa (aa (aa (aa (aa (aa (aa (aa (aa (aa (aa (aa (aa (aa (aa (aa (aa (aa (aa (aa (aa (aa (aa (aa (aa (aa Q2 22 (.bool true)) 23 bI) 22 (.bool true)) 24 bI) 22 (.bool true)) 25 bI) 22 (.bool true)) 26 bI) 22 (.bool true)) 27 bI) 22 (.bool true)) 28 bI) 22 (.bool true)) 29 bI) 22 (.bool true)) 30 bI) 22 (.bool true)) 31 bI) 22 (.bool true)) 32 bI) 22 (.bool true)) 33 bI) 22 (.bool true)) 34 bI) 35 (.bool true)) 4 (.bool false)),36,[],c⟩) (af (bS 1 (e 2)) fun d=>af (ag none d c) fun f=>af (dG 3 f b) fun g=>af (bS 1 g) fun i=>af (ag none i c) fun j=>af (dG 2 (e 1) (e 5)) fun k=>af (bS 1 k) fun l=>af (ag none l c) fun m=>af (nA (.int .i64) j m) fun a=>let Q3:=(aa (aa (aa (aa (aa (aa (aa (aa (aa (aa (aa (aa (aa (aa (aa (aa (aa (aa (aa (aa (aa (aa (aa (aa (aa Q2 22 (.bool false)) 23 d) 22 (.bool false)) 24 f) 22 (.bool false)) 25 b) 22 (.bool false)) 26 g) 22 (.bool false)) 27 i) 22 (.bool false)) 28 j) 22 (.bool false)) 29 (e 1)) 22 (.bool false)) 30 (e 5)) 22 (.bool false)) 31 k) 22 (.bool false)) 32 l) 22 (.bool false)) 33 m) 22 (.bool false)) 34 a) 35 a);ay a (J .ret ⟨(aa Q3 4 (.bool false)),36,[],c⟩) (af (aF .add (e 5) (.int .i64 1)) fun n=>J .normal ⟨(aa (aa (aa Q3 11 (e 5)) 12 n) 5 n),36,[],c⟩))) (fun _ _=>false))) (J (.exit 0) ⟨Q1,36,[],h⟩)):=by kernel_rfl
theorem F.eT.aG:F.eT.cQ K (.exit 0) ⟨e,36,[],h⟩=(K (.ret (.bool true)) h):=by kernel_rfl
theorem F.eT.bC:F.eT.cQ K .ret ⟨e,36,[],h⟩=(K (.ret (e 4)) h):=by kernel_rfl
theorem F.Ez:EV (ai Tryz.f67) ⟨aC [a0,a1],36,[],h⟩ (RL Tryz.f67 K)=(af (eX a0) fun a=>bW (EV F.eT.L0) ⟨(aa (aa (aa (aC [a0,a1]) 2 (.ptr (Heap.next h) 0)) 4 (.bool false)) 5 (.int .i64 0)),36,[],(Heap.alloc h (.cells a))⟩ (F.eT.cQ K)):=by kernel_rfl
theorem F.CK(hh:EV (ai Tryz.f67) ⟨aC [a0,a1],36,[],h⟩ (RL Tryz.f67 K)=true):Sem TP 67 [a0,a1] h K:=
 SB Tryz.func67 rfl (by decide) (by kernel_rfl) hh
noncomputable def F.eU.L0:=partOf (ai Tryz.f69) [1,0,1,0,0]
noncomputable def F.eU.cQ(K:Out->Heap->Bool):=(bg 0 (cX false (EV (partOf (ai Tryz.f69) [1,1])) (RL Tryz.f69 K)))
theorem F.eU.aT:EV F.eU.L0 ⟨e,22,[],h⟩ J=(af (bS 1 (e 2)) fun c=>af (ag none c h) fun d=>af (bU .slice d h) fun f=>af (aF .lss (e 5) f) fun g=>let Q1:=(aa (aa (aa (aa (aa e 6 (e 5)) 7 c) 8 d) 9 f) 10 g);ay g (af (bS 1 (e 2)) fun i=>af (ag none i h) fun j=>af (dG 3 j (e 5)) fun k=>af (bS 0 k) fun l=>af (ag none l h) fun m=>af (jA .string m (e 1)) fun a=>let Q2:=(aa (aa (aa (aa (aa (aa (aa (aa Q1 13 i) 14 j) 15 (e 5)) 16 k) 17 l) 18 m) 19 (e 1)) 20 a);ay a (J .ret ⟨(aa (aa Q2 21 (e 5)) 4 (e 5)),22,[],h⟩) (af (aF .add (e 5) (.int .i64 1)) fun b=>J .normal ⟨(aa (aa (aa Q2 11 (e 5)) 12 b) 5 b),22,[],h⟩)) (J (.exit 0) ⟨Q1,22,[],h⟩)):=by kernel_rfl
theorem F.eU.aG:F.eU.cQ K (.exit 0) ⟨e,22,[],h⟩=(K (.ret (.int .i64 (-1))) h):=by kernel_rfl
theorem F.eU.bC:F.eU.cQ K .ret ⟨e,22,[],h⟩=(K (.ret (e 4)) h):=by kernel_rfl
theorem F.EA:EV (ai Tryz.f69) ⟨aC [a0,a1],22,[],h⟩ (RL Tryz.f69 K)=(af (eX a0) fun a=>bW (EV F.eU.L0) ⟨(aa (aa (aa (aC [a0,a1]) 2 (.ptr (Heap.next h) 0)) 4 (.int .i64 0)) 5 (.int .i64 0)),22,[],(Heap.alloc h (.cells a))⟩ (F.eU.cQ K)):=by kernel_rfl
theorem F.CL(hh:EV (ai Tryz.f69) ⟨aC [a0,a1],22,[],h⟩ (RL Tryz.f69 K)=true):Sem TP 69 [a0,a1] h K:=
 SB Tryz.func69 rfl (by decide) (by kernel_rfl) hh
noncomputable def F.gY.L0:=partOf (ai Tryz.f155) [1,1,0,1,0,0]
noncomputable def F.gY.cQ(K:Out->Heap->Bool):=(bg 0 (cX false (EV (partOf (ai Tryz.f155) [1,1,1])) (RL Tryz.f155 K)))
theorem F.gY.aT:EV F.gY.L0 ⟨e,20,[],h⟩ J=(af (aF .lss (e 6) (e 1)) fun a=>let Q1:=(aa (aa (aa (aa e 7 (e 6)) 8 (e 1)) 9 a) 10 a);ay a (af (aF .leq (e 5) (.int .i64 4096)) fun b=>let Q2:=(aa (aa (aa (aa (aa Q1 10 (.bool true)) 11 (e 5)) 10 (.bool true)) 12 b) 13 b);ay b (af (aF .mul (e 5) (e 0)) fun c=>af (aF .add (e 6) (.int .i64 1)) fun d=>J .normal ⟨(aa (aa (aa (aa (aa (aa (aa Q2 16 (e 5)) 17 (e 0)) 18 c) 5 c) 14 (e 6)) 15 d) 6 d),20,[],h⟩) (J (.exit 0) ⟨Q2,20,[],h⟩)) (J (.exit 0) ⟨(aa (aa (aa (aa (aa Q1 10 (.bool false)) 11 bI) 10 (.bool false)) 12 bI) 13 (.bool false)),20,[],h⟩)):=by kernel_rfl
theorem F.gY.aG:F.gY.cQ K (.exit 0) ⟨e,20,[],h⟩=(K (.ret (e 5)) h):=by kernel_rfl
theorem F.GR:EV (ai Tryz.f155) ⟨aC [a0,a1],20,[],h⟩ (RL Tryz.f155 K)=(bW (EV F.gY.L0) ⟨(aa (aa (aa (aC [a0,a1]) 4 (.int .i64 0)) 5 (.int .i64 1)) 6 (.int .i64 0)),20,[],h⟩ (F.gY.cQ K)):=by kernel_rfl
theorem F.EB(hh:EV (ai Tryz.f155) ⟨aC [a0,a1],20,[],h⟩ (RL Tryz.f155 K)=true):Sem TP 155 [a0,a1] h K:=
 SB Tryz.func155 rfl (by decide) (by kernel_rfl) hh
noncomputable def F.dI.L0:=partOf (ai Tryz.f64) [1,1,0,1,0,0]
noncomputable def F.dI.cQ(K:Out->Heap->Bool):=(bg 0 (cX false (EV (partOf (ai Tryz.f64) [1,1,1])) (RL Tryz.f64 K)))
theorem F.dI.aT:EV F.dI.L0 ⟨e,63,[],h⟩ J=(af (aF .lss (e 22) (e 21)) fun y=>let Q1:=(aa e 23 y);ay y (af (dG 3 (e 20) (e 22)) fun g=>af (ag (some 3) g h) fun i=>af (aY 3 (.ptr (Heap.next h) 0) i (Heap.alloc h (.cells [(.str []),(.int .i64 0),.ax]))) fun z=>af (bS 0 (.ptr (Heap.next h) 0)) fun j=>af (ag none j z) fun k=>aA TP 107 [k] z (bJ (fun A a=>af (kr .not A) fun l=>let Q2:=(aa (aa (aa (aa (aa (aa (aa (aa (aa (aa Q1 24 (e 22)) 25 g) 26 i) 4 (.ptr (Heap.next h) 0)) 3 (e 22)) 27 j) 28 k) 29 A) 30 l) 31 l);ay l (J .ret ⟨(aa (aa (aa (aa (aa (aa (aa (aa (aa (aa (aa (aa (aa (aa (aa (aa (aa (aa (aa (aa (aa (aa (aa (aa (aa (aa (aa (aa (aa (aa (aa (aa (aa (aa (aa (aa (aa (aa (aa (aa (aa (aa Q2 31 (.bool true)) 32 bI) 31 (.bool true)) 33 bI) 31 (.bool true)) 34 bI) 35 (.bool true)) 36 (.bool true)) 36 (.bool true)) 37 bI) 36 (.bool true)) 38 bI) 36 (.bool true)) 39 bI) 40 (.bool true)) 41 (.bool true)) 41 (.bool true)) 42 bI) 41 (.bool true)) 43 bI) 41 (.bool true)) 44 bI) 41 (.bool true)) 45 bI) 41 (.bool true)) 46 bI) 41 (.bool true)) 47 bI) 48 (.bool true)) 49 (.bool true)) 49 (.bool true)) 50 bI) 49 (.bool true)) 51 bI) 49 (.bool true)) 52 bI) 49 (.bool true)) 53 bI) 49 (.bool true)) 54 bI) 55 (.bool true)) 2 (.bool false)),63,[],a⟩) (af (bS 1 (.ptr (Heap.next h) 0)) fun B=>af (ag none B a) fun C=>af (aF .lss C (.int .i64 0)) fun b=>let Q3:=(aa (aa (aa (aa (aa (aa (aa (aa Q2 31 (.bool false)) 32 B) 31 (.bool false)) 33 C) 31 (.bool false)) 34 b) 35 b) 36 b);ay b (J .ret ⟨(aa (aa (aa (aa (aa (aa (aa (aa (aa (aa (aa (aa (aa (aa (aa (aa (aa (aa (aa (aa (aa (aa (aa (aa (aa (aa (aa (aa (aa (aa (aa (aa (aa (aa Q3 36 (.bool true)) 37 bI) 36 (.bool true)) 38 bI) 36 (.bool true)) 39 bI) 40 (.bool true)) 41 (.bool true)) 41 (.bool true)) 42 bI) 41 (.bool true)) 43 bI) 41 (.bool true)) 44 bI) 41 (.bool true)) 45 bI) 41 (.bool true)) 46 bI) 41 (.bool true)) 47 bI) 48 (.bool true)) 49 (.bool true)) 49 (.bool true)) 50 bI) 49 (.bool true)) 51 bI) 49 (.bool true)) 52 bI) 49 (.bool true)) 53 bI) 49 (.bool true)) 54 bI) 55 (.bool true)) 2 (.bool false)),63,[],a⟩) (af (bS 1 (.ptr (Heap.next h) 0)) fun D=>af (ag none D a) fun E=>af (aF .gtr E (.int .i64 12)) fun c=>let Q4:=(aa (aa (aa (aa (aa (aa (aa (aa Q3 36 (.bool false)) 37 D) 36 (.bool false)) 38 E) 36 (.bool false)) 39 c) 40 c) 41 c);ay c (J .ret ⟨(aa (aa (aa (aa (aa (aa (aa (aa (aa (aa (aa (aa (aa (aa (aa (aa (aa (aa (aa (aa (aa (aa (aa (aa (aa (aa Q4 41 (.bool true)) 42 bI) 41 (.bool true)) 43 bI) 41 (.bool true)) 44 bI) 41 (.bool true)) 45 bI) 41 (.bool true)) 46 bI) 41 (.bool true)) 47 bI) 48 (.bool true)) 49 (.bool true)) 49 (.bool true)) 50 bI) 49 (.bool true)) 51 bI) 49 (.bool true)) 52 bI) 49 (.bool true)) 53 bI) 49 (.bool true)) 54 bI) 55 (.bool true)) 2 (.bool false)),63,[],a⟩) (af (bS 0 (e 1)) fun m=>af (ag none m a) fun n=>af (bS 1 (.ptr (Heap.next h) 0)) fun o=>af (ag none o a) fun p=>aA TP 108 [n,p,(.int .i64 4096)] a (bJ (fun G d=>af (aF .lss G (.int .i64 0)) fun f=>let Q5:=(aa (aa (aa (aa (aa (aa (aa (aa (aa (aa (aa (aa (aa (aa Q4 41 (.bool false)) 42 m) 41 (.bool false)) 43 n) 41 (.bool false)) 44 o) 41 (.bool false)) 45 p) 41 (.bool false)) 46 G) 41 (.bool false)) 47 f) 48 f) 49 f);ay f (J .ret ⟨(aa (aa (aa (aa (aa (aa (aa (aa (aa (aa (aa (aa Q5 49 (.bool true)) 50 bI) 49 (.bool true)) 51 bI) 49 (.bool true)) 52 bI) 49 (.bool true)) 53 bI) 49 (.bool true)) 54 bI) 55 (.bool true)) 2 (.bool false)),63,[],d⟩) (af (bS 0 (e 1)) fun q=>af (ag none q d) fun r=>af (ag (some 3) (.ptr (Heap.next h) 0) d) fun s=>aA TP 109 [r,s] d (bJ (fun I t=>af (kr .not I) fun u=>let Q6:=(aa (aa (aa (aa (aa (aa (aa (aa (aa (aa (aa Q5 49 (.bool false)) 50 q) 49 (.bool false)) 51 r) 49 (.bool false)) 52 s) 49 (.bool false)) 53 I) 49 (.bool false)) 54 u) 55 u);ay u (J .ret ⟨(aa Q6 2 (.bool false)),63,[],t⟩) (af (bS 1 (e 1)) fun v=>af (ag none v t) fun w=>af (gZ (some 3) w none (some (e 22))) fun x=>aA TP 110 [x,(.func 111 [] [(.ptr (Heap.next h) 0)])] t (bJ (fun L M=>let Q7:=(aa (aa (aa (aa (aa (aa Q6 56 v) 57 w) 58 (e 22)) 59 x) 60 (.func 111 [] [(.ptr (Heap.next h) 0)])) 61 L);ay L (J .ret ⟨(aa Q7 2 (.bool false)),63,[],M⟩) (af (aF .add (e 22) (.int .i64 1)) fun N=>J .normal ⟨(aa (aa Q7 62 N) 22 N),63,[],M⟩)) (fun O P=>J (.panic O) ⟨(aa (aa (aa (aa (aa Q6 56 v) 57 w) 58 (e 22)) 59 x) 60 (.func 111 [] [(.ptr (Heap.next h) 0)])),63,[],P⟩)))) (fun R S=>J (.panic R) ⟨(aa (aa (aa (aa (aa (aa (aa Q5 49 (.bool false)) 50 q) 49 (.bool false)) 51 r) 49 (.bool false)) 52 s) 49 (.bool false)),63,[],S⟩)))) (fun T U=>J (.panic T) ⟨(aa (aa (aa (aa (aa (aa (aa (aa (aa Q4 41 (.bool false)) 42 m) 41 (.bool false)) 43 n) 41 (.bool false)) 44 o) 41 (.bool false)) 45 p) 41 (.bool false)),63,[],U⟩)))))) (fun V W=>J (.panic V) ⟨(aa (aa (aa (aa (aa (aa (aa Q1 24 (e 22)) 25 g) 26 i) 4 (.ptr (Heap.next h) 0)) 3 (e 22)) 27 j) 28 k),63,[],W⟩))) (J (.exit 0) ⟨Q1,63,[],h⟩)):=by kernel_rfl
theorem F.dI.aG:F.dI.cQ K (.exit 0) ⟨e,63,[],h⟩=(K (.ret (.bool true)) h):=by kernel_rfl
theorem F.dI.bC:F.dI.cQ K .ret ⟨e,63,[],h⟩=(K (.ret (e 2)) h):=by kernel_rfl
theorem F.CM:EV (ai Tryz.f64) ⟨aC [a0],63,[],h⟩ (RL Tryz.f64 K)=(af (eX a0) fun a=>af (bS 0 (.ptr (Heap.next h) 0)) fun j=>af (ag none j (Heap.alloc h (.cells a))) fun k=>af (aF .lss k (.int .i64 1)) fun g=>ay g (K (.ret (.bool false)) (Heap.alloc h (.cells a))) (af (bS 0 (.ptr (Heap.next h) 0)) fun l=>af (ag none l (Heap.alloc h (.cells a))) fun m=>af (aF .gtr m (.int .i64 64)) fun f=>ay f (K (.ret (.bool false)) (Heap.alloc h (.cells a))) (af (bS 1 (.ptr (Heap.next h) 0)) fun n=>af (ag none n (Heap.alloc h (.cells a))) fun o=>af (bU .slice o (Heap.alloc h (.cells a))) fun p=>af (aF .gtr p (.int .i64 8)) fun b=>ay b (K (.ret (.bool false)) (Heap.alloc h (.cells a))) (af (bS 1 (.ptr (Heap.next h) 0)) fun c=>af (ag none c (Heap.alloc h (.cells a))) fun d=>af (bU .slice d (Heap.alloc h (.cells a))) fun i=>bW (EV F.dI.L0) ⟨(aa (aa (aa (aa (aa (aa (aa (aa (aa (aa (aa (aa (aa (aa (aa (aa (aa (aa (aa (aa (aa (aa (aa (aa (aa (aa (aa (aC [a0]) 1 (.ptr (Heap.next h) 0)) 2 (.bool false)) 5 j) 6 k) 7 g) 8 g) 8 (.bool false)) 9 l) 8 (.bool false)) 10 m) 8 (.bool false)) 11 f) 12 f) 13 f) 13 (.bool false)) 14 n) 13 (.bool false)) 15 o) 13 (.bool false)) 16 p) 13 (.bool false)) 17 b) 18 b) 19 c) 20 d) 21 i) 22 (.int .i64 0)),63,[],(Heap.alloc h (.cells a))⟩ (F.dI.cQ K))))):=by kernel_rfl
theorem F.A1(hh:EV (ai Tryz.f64) ⟨aC [a0],63,[],h⟩ (RL Tryz.f64 K)=true):Sem TP 64 [a0] h K:=
 SB Tryz.func64 rfl (by decide) (by kernel_rfl) hh
theorem F.EC:EV (ai Tryz.f53) ⟨aC [a0,a1,a2],11,[],h⟩ (RL Tryz.f53 K)=(af (eX a0) fun a=>af (eX a1) fun b=>af (eX a2) fun c=>af (bS 1 (.ptr (Heap.next h) 0)) fun d=>af (ag none d (Heap.alloc (Heap.alloc (Heap.alloc h (.cells a)) (.cells b)) (.cells c))) fun f=>aA TP 76 [f,(.func 94 [] [(.ptr (Heap.next (Heap.alloc h (.cells a))) 0),(.ptr (Heap.next (Heap.alloc (Heap.alloc h (.cells a)) (.cells b))) 0)])] (Heap.alloc (Heap.alloc (Heap.alloc h (.cells a)) (.cells b)) (.cells c)) (bJ (fun g i=>K (.ret g) i) (fun j k=>K (.panic j) k))):=by kernel_rfl
theorem F.CN(hh:EV (ai Tryz.f53) ⟨aC [a0,a1,a2],11,[],h⟩ (RL Tryz.f53 K)=true):Sem TP 53 [a0,a1,a2] h K:=
 SB Tryz.func53 rfl (by decide) (by kernel_rfl) hh
noncomputable def F.bE.L0:=partOf (ai Tryz.f55) [1,0,1,0,0]
noncomputable def F.bE.cQ(K:Out->Heap->Bool):=(bg 0 (cX false (EV (partOf (ai Tryz.f55) [1,1])) (RL Tryz.f55 K)))
theorem F.bE.aT:EV F.bE.L0 ⟨e,36,[],h⟩ J=(af (aF .lss (e 11) (e 10)) fun k=>let Q1:=(aa e 12 k);ay k (af (dG 1 (e 9) (e 11)) fun l=>af (ag none l h) fun c=>af (bU .slice (e 1) h) fun m=>af (aF .geq (e 11) m) fun n=>let Q2:=(aa (aa (aa (aa (aa (aa (aa (aa (aa Q1 13 (e 11)) 14 l) 15 c) 5 (e 11)) 6 c) 16 (e 11)) 17 (e 1)) 18 m) 19 n);ay n (J .ret ⟨(aa Q2 4 (.int .i64 1)),36,[],h⟩) (af (dG 1 (e 1) (e 11)) fun g=>af (ag none g h) fun a=>aA TP 95 [c,a] h (bJ (fun b o=>af (nA (.int .i64) b (.int .i64 0)) fun d=>let Q3:=(aa (aa (aa (aa (aa (aa (aa (aa (aa (aa (aa Q2 20 (e 1)) 21 (e 11)) 22 g) 23 a) 7 a) 24 c) 25 a) 26 b) 8 b) 27 b) 28 d);ay d (J .ret ⟨(aa (aa Q3 29 b) 4 b),36,[],o⟩) (af (aF .add (e 11) (.int .i64 1)) fun f=>J .normal ⟨(aa (aa Q3 30 f) 11 f),36,[],o⟩)) (fun i j=>J (.panic i) ⟨(aa (aa (aa (aa (aa (aa (aa Q2 20 (e 1)) 21 (e 11)) 22 g) 23 a) 7 a) 24 c) 25 a),36,[],j⟩)))) (J (.exit 0) ⟨Q1,36,[],h⟩)):=by kernel_rfl
theorem F.bE.aG:F.bE.cQ K (.exit 0) ⟨e,36,[],h⟩=(af (bU .slice (e 0) h) fun a=>af (bU .slice (e 1) h) fun b=>af (aF .lss a b) fun c=>ay c (K (.ret (.int .i64 (-1))) h) (K (.ret (.int .i64 0)) h)):=by kernel_rfl
theorem F.bE.bC:F.bE.cQ K .ret ⟨e,36,[],h⟩=(K (.ret (e 4)) h):=by kernel_rfl
theorem F.jD:EV (ai Tryz.f55) ⟨aC [a0,a1],36,[],h⟩ (RL Tryz.f55 K)=(af (bU .slice a0 h) fun a=>bW (EV F.bE.L0) ⟨(aa (aa (aa (aa (aC [a0,a1]) 4 (.int .i64 0)) 9 a0) 10 a) 11 (.int .i64 0)),36,[],h⟩ (F.bE.cQ K)):=by kernel_rfl
theorem F.jk(hh:EV (ai Tryz.f55) ⟨aC [a0,a1],36,[],h⟩ (RL Tryz.f55 K)=true):Sem TP 55 [a0,a1] h K:=
 SB Tryz.func55 rfl (by decide) (by kernel_rfl) hh
theorem F.yc:EV (ai Tryz.f52) ⟨aC [a0,a1],9,[],h⟩ (RL Tryz.f52 K)=(af (eX a0) fun a=>aA TP 47 [a1,(.func 93 [] [(.ptr (Heap.next h) 0)])] (Heap.alloc h (.cells a)) (bJ (fun b c=>af (kr .not b) fun d=>K (.ret d) c) (fun f g=>K (.panic f) g))):=by kernel_rfl
theorem F.wG(hh:EV (ai Tryz.f52) ⟨aC [a0,a1],9,[],h⟩ (RL Tryz.f52 K)=true):Sem TP 52 [a0,a1] h K:=
 SB Tryz.func52 rfl (by decide) (by kernel_rfl) hh
theorem F.CO:EV (ai Tryz.f99) ⟨aC [a0,a1],27,[],h⟩ (RL Tryz.f99 K)=(af (aF .lss a0 (.int .i64 1)) fun c=>ay c (K (.ret (.tuple [(.int .i64 0),(.int .i64 2)])) h) (af (aF .gtr a0 (.int .i64 64)) fun d=>ay d (K (.ret (.tuple [(.int .i64 0),(.int .i64 2)])) h) (af (aF .lss a1 (.int .i64 0)) fun f=>ay f (K (.ret (.tuple [(.int .i64 0),(.int .i64 2)])) h) (af (aF .gtr a1 (.int .i64 12)) fun g=>ay g (K (.ret (.tuple [(.int .i64 0),(.int .i64 2)])) h) (aA TP 108 [a0,a1,(.int .i64 4096)] h (bJ (fun a b=>af (aF .lss a (.int .i64 0)) fun i=>ay i (K (.ret (.tuple [(.int .i64 0),(.int .i64 5)])) b) (K (.ret (.tuple [a,(.int .i64 0)])) b)) (fun j k=>K (.panic j) k))))))):=by kernel_rfl
theorem F.A2(hh:EV (ai Tryz.f99) ⟨aC [a0,a1],27,[],h⟩ (RL Tryz.f99 K)=true):Sem TP 99 [a0,a1] h K:=
 SB Tryz.func99 rfl (by decide) (by kernel_rfl) hh
noncomputable def F.fJ.L0:=partOf (ai Tryz.f115) [1,1,0,1,0,0]
noncomputable def F.fJ.cQ(K:Out->Heap->Bool):=(bg 0 (cX false (EV (partOf (ai Tryz.f115) [1,1,1])) (RL Tryz.f115 K)))
theorem F.fJ.aT:EV F.fJ.L0 ⟨e,72,[],h⟩ J=(af (bS 2 (e 3)) fun g=>af (ag none g h) fun i=>af (bU .slice i h) fun j=>af (aF .lss (e 5) j) fun k=>let Q1:=(aa (aa (aa (aa (aa e 27 (e 5)) 28 g) 29 i) 30 j) 31 k);ay k (af (bS 2 (e 3)) fun l=>af (ag none l h) fun m=>af (dG 1 m (e 5)) fun n=>af (ag none n h) fun o=>af (bU .slice o h) fun p=>af (bS 1 (e 3)) fun q=>af (ag none q h) fun r=>af (nA (.int .i64) p r) fun d=>let Q2:=(aa (aa (aa (aa (aa (aa (aa (aa (aa (aa Q1 34 l) 35 m) 36 (e 5)) 37 n) 38 o) 39 p) 40 q) 41 r) 42 d) 43 d);ay d (J .ret ⟨(aa (aa (aa (aa (aa (aa (aa (aa (aa (aa (aa (aa (aa (aa (aa (aa (aa (aa (aa (aa (aa (aa (aa (aa (aa (aa (aa (aa (aa (aa (aa (aa (aa (aa (aa (aa (aa (aa (aa (aa (aa Q2 43 (.bool true)) 44 bI) 43 (.bool true)) 45 bI) 43 (.bool true)) 46 bI) 43 (.bool true)) 47 bI) 43 (.bool true)) 48 bI) 43 (.bool true)) 49 bI) 43 (.bool true)) 50 bI) 43 (.bool true)) 51 bI) 52 (.bool true)) 53 (.bool true)) 53 (.bool true)) 54 bI) 53 (.bool true)) 55 bI) 53 (.bool true)) 56 bI) 57 bI) 58 bI) 59 bI) 60 bI) 61 bI) 62 bI) 63 bI) 64 bI) 65 bI) 66 bI) 67 bI) 68 bI) 69 bI) 53 (.bool true)) 70 bI) 71 (.bool true)) 4 (.bool false)),72,[],h⟩) (af (bS 2 (e 3)) fun s=>af (ag none s h) fun t=>af (dG 1 t (e 5)) fun u=>af (ag none u h) fun v=>aA TP 125 [(e 0),v] h (bJ (fun w a=>af (kr .not w) fun b=>let Q3:=(aa (aa (aa (aa (aa (aa (aa (aa (aa (aa (aa (aa (aa (aa (aa (aa (aa (aa Q2 43 (.bool false)) 44 (e 0)) 43 (.bool false)) 45 s) 43 (.bool false)) 46 t) 43 (.bool false)) 47 (e 5)) 43 (.bool false)) 48 u) 43 (.bool false)) 49 v) 43 (.bool false)) 50 w) 43 (.bool false)) 51 b) 52 b) 53 b);ay b (J .ret ⟨(aa (aa (aa (aa (aa (aa (aa (aa (aa (aa (aa (aa (aa (aa (aa (aa (aa (aa (aa (aa (aa (aa (aa Q3 53 (.bool true)) 54 bI) 53 (.bool true)) 55 bI) 53 (.bool true)) 56 bI) 57 bI) 58 bI) 59 bI) 60 bI) 61 bI) 62 bI) 63 bI) 64 bI) 65 bI) 66 bI) 67 bI) 68 bI) 69 bI) 53 (.bool true)) 70 bI) 71 (.bool true)) 4 (.bool false)),72,[],a⟩) (af (aF .gtr (e 5) (.int .i64 0)) fun f=>let Q4:=(aa (aa (aa (aa (aa (aa Q3 53 (.bool false)) 54 (e 5)) 53 (.bool false)) 55 f) 53 (.bool false)) 56 f);ay f (af (bS 2 (e 3)) fun x=>af (ag none x a) fun y=>af (aF .sub (e 5) (.int .i64 1)) fun z=>af (dG 1 y z) fun A=>af (ag none A a) fun B=>af (bS 2 (e 3)) fun C=>af (ag none C a) fun D=>af (dG 1 D (e 5)) fun E=>af (ag none E a) fun G=>aA TP 156 [B,G] a (bJ (fun I L=>af (kr .not I) fun c=>let Q5:=(aa (aa (aa (aa (aa (aa (aa (aa (aa (aa (aa (aa (aa (aa (aa (aa (aa (aa (aa (aa (aa (aa (aa (aa (aa (aa (aa (aa (aa Q4 56 (.bool true)) 57 x) 56 (.bool true)) 58 y) 56 (.bool true)) 59 (e 5)) 56 (.bool true)) 60 z) 56 (.bool true)) 61 A) 56 (.bool true)) 62 B) 56 (.bool true)) 63 C) 56 (.bool true)) 64 D) 56 (.bool true)) 65 (e 5)) 56 (.bool true)) 66 E) 56 (.bool true)) 67 G) 56 (.bool true)) 68 I) 56 (.bool true)) 69 c) 53 (.bool false)) 70 c) 71 c);ay c (J .ret ⟨(aa Q5 4 (.bool false)),72,[],L⟩) (af (aF .add (e 5) (.int .i64 1)) fun M=>J .normal ⟨(aa (aa (aa Q5 32 (e 5)) 33 M) 5 M),72,[],L⟩)) (fun _ _=>false))) (af (aF .add (e 5) (.int .i64 1)) fun N=>J .normal ⟨(aa (aa (aa (aa (aa (aa (aa (aa (aa (aa (aa (aa (aa (aa (aa (aa (aa (aa (aa (aa (aa (aa (aa (aa (aa (aa (aa (aa (aa (aa (aa (aa Q4 56 (.bool false)) 57 bI) 56 (.bool false)) 58 bI) 56 (.bool false)) 59 bI) 56 (.bool false)) 60 bI) 56 (.bool false)) 61 bI) 56 (.bool false)) 62 bI) 56 (.bool false)) 63 bI) 56 (.bool false)) 64 bI) 56 (.bool false)) 65 bI) 56 (.bool false)) 66 bI) 56 (.bool false)) 67 bI) 56 (.bool false)) 68 bI) 56 (.bool false)) 69 bI) 53 (.bool false)) 70 (.bool false)) 71 (.bool false)) 32 (e 5)) 33 N) 5 N),72,[],a⟩))) (fun _ _=>false)))) (J (.exit 0) ⟨Q1,72,[],h⟩)):=by kernel_rfl
theorem F.fJ.aG:F.fJ.cQ K (.exit 0) ⟨e,72,[],h⟩=(K (.ret (.bool true)) h):=by kernel_rfl
theorem F.fJ.bC:F.fJ.cQ K .ret ⟨e,72,[],h⟩=(K (.ret (e 4)) h):=by kernel_rfl
theorem F.GS:EV (ai Tryz.f115) ⟨aC [a0,a1],72,[],h⟩ (RL Tryz.f115 K)=(af (eX a1) fun p=>af (bS 0 (.ptr (Heap.next h) 0)) fun q=>af (ag none q (Heap.alloc h (.cells p))) fun r=>aA TP 153 [r] (Heap.alloc h (.cells p)) (bJ (fun s c=>af (kr .not s) fun m=>ay m (K (.ret (.bool false)) c) (af (bS 1 (.ptr (Heap.next h) 0)) fun t=>af (ag none t c) fun u=>af (aF .lss u (.int .i64 0)) fun a=>ay a (K (.ret (.bool false)) c) (af (bS 1 (.ptr (Heap.next h) 0)) fun f=>af (ag none f c) fun g=>af (aF .gtr g (.int .i64 12)) fun b=>ay b (K (.ret (.bool false)) c) (af (bS 1 (.ptr (Heap.next h) 0)) fun i=>af (ag none i c) fun j=>aA TP 155 [a0,j] c (bJ (fun k l=>af (aF .gtr k (.int .i64 4096)) fun d=>ay d (K (.ret (.bool false)) l) (bW (EV F.fJ.L0) ⟨(aa (aa (aa (aa (aa (aa (aa (aa (aa (aa (aa (aa (aa (aa (aa (aa (aa (aa (aa (aa (aa (aa (aa (aa (aa (aa (aa (aa (aa (aa (aa (aa (aa (aa (aa (aC [a0,a1]) 3 (.ptr (Heap.next h) 0)) 4 (.bool false)) 6 q) 7 r) 8 s) 9 m) 10 m) 10 (.bool false)) 11 t) 10 (.bool false)) 12 u) 10 (.bool false)) 13 a) 14 a) 15 a) 15 (.bool false)) 16 f) 15 (.bool false)) 17 g) 15 (.bool false)) 18 b) 19 b) 20 b) 20 (.bool false)) 21 a0) 20 (.bool false)) 22 i) 20 (.bool false)) 23 j) 20 (.bool false)) 24 k) 20 (.bool false)) 25 d) 26 d) 5 (.int .i64 0)),72,[],l⟩ (F.fJ.cQ K))) (fun n o=>K (.panic n) o)))))) (fun v w=>K (.panic v) w))):=by kernel_rfl
theorem F.ED(hh:EV (ai Tryz.f115) ⟨aC [a0,a1],72,[],h⟩ (RL Tryz.f115 K)=true):Sem TP 115 [a0,a1] h K:=
 SB Tryz.func115 rfl (by decide) (by kernel_rfl) hh
noncomputable def F.fB.L0:=partOf (ai Tryz.f156) [1,0,1,0,0]
noncomputable def F.fB.cQ(K:Out->Heap->Bool):=(bg 0 (cX false (EV (partOf (ai Tryz.f156) [1,1])) (RL Tryz.f156 K)))
theorem F.fB.aT:EV F.fB.L0 ⟨e,30,[],h⟩ J=(af (bU .slice (e 0) h) fun d=>af (aF .lss (e 5) d) fun f=>let Q1:=(aa (aa (aa (aa e 6 (e 5)) 7 (e 0)) 8 d) 9 f);ay f (af (dG 1 (e 0) (e 5)) fun g=>af (ag none g h) fun i=>af (dG 1 (e 1) (e 5)) fun j=>af (ag none j h) fun k=>af (nA (.int .i64) i k) fun l=>let Q2:=(aa (aa (aa (aa (aa (aa (aa (aa (aa Q1 12 (e 0)) 13 (e 5)) 14 g) 15 i) 16 (e 1)) 17 (e 5)) 18 j) 19 k) 20 l);ay l (af (dG 1 (e 0) (e 5)) fun m=>af (ag none m h) fun n=>af (dG 1 (e 1) (e 5)) fun o=>af (ag none o h) fun a=>af (aF .lss n a) fun b=>J .ret ⟨(aa (aa (aa (aa (aa (aa (aa (aa (aa (aa Q2 21 (e 0)) 22 (e 5)) 23 m) 24 n) 25 (e 1)) 26 (e 5)) 27 o) 28 a) 29 b) 4 b),30,[],h⟩) (af (aF .add (e 5) (.int .i64 1)) fun c=>J .normal ⟨(aa (aa (aa Q2 10 (e 5)) 11 c) 5 c),30,[],h⟩)) (J (.exit 0) ⟨Q1,30,[],h⟩)):=by kernel_rfl
theorem F.fB.aG:F.fB.cQ K (.exit 0) ⟨e,30,[],h⟩=(K (.ret (.bool false)) h):=by kernel_rfl
theorem F.fB.bC:F.fB.cQ K .ret ⟨e,30,[],h⟩=(K (.ret (e 4)) h):=by kernel_rfl
theorem F.EE:EV (ai Tryz.f156) ⟨aC [a0,a1],30,[],h⟩ (RL Tryz.f156 K)=(bW (EV F.fB.L0) ⟨(aa (aa (aC [a0,a1]) 4 (.bool false)) 5 (.int .i64 0)),30,[],h⟩ (F.fB.cQ K)):=by kernel_rfl
theorem F.CP(hh:EV (ai Tryz.f156) ⟨aC [a0,a1],30,[],h⟩ (RL Tryz.f156 K)=true):Sem TP 156 [a0,a1] h K:=
 SB Tryz.func156 rfl (by decide) (by kernel_rfl) hh
noncomputable def F.ec.L0:=partOf (ai Tryz.f108) [1,1,0,1,0,0]
noncomputable def F.ec.cQ(K:Out->Heap->Bool):=(bg 0 (cX false (EV (partOf (ai Tryz.f108) [1,1,1])) (RL Tryz.f108 K)))
theorem F.ec.aT:EV F.ec.L0 ⟨e,19,[],h⟩ J=(af (aF .lss (e 9) (e 8)) fun b=>ay b (af (aF .mul (e 7) (e 0)) fun a=>af (aF .gtr a (e 2)) fun c=>let Q1:=(aa (aa (aa (aa (aa (aa (aa (aa e 10 b) 11 (e 7)) 12 (e 0)) 13 a) 7 a) 14 a) 15 (e 2)) 16 c);ay c (J .ret ⟨(aa Q1 6 (.int .i64 (-1))),19,[],h⟩) (af (aF .add (e 9) (.int .i64 1)) fun d=>J .normal ⟨(aa (aa Q1 17 d) 9 d),19,[],h⟩)) (J (.exit 0) ⟨(aa e 10 b),19,[],h⟩)):=by kernel_rfl
theorem F.ec.aG:F.ec.cQ K (.exit 0) ⟨e,19,[],h⟩=(K (.ret (e 7)) h):=by kernel_rfl
theorem F.ec.bC:F.ec.cQ K .ret ⟨e,19,[],h⟩=(K (.ret (e 6)) h):=by kernel_rfl
theorem F.CQ:EV (ai Tryz.f108) ⟨aC [a0,a1,a2],19,[],h⟩ (RL Tryz.f108 K)=(bW (EV F.ec.L0) ⟨(aa (aa (aa (aa (aC [a0,a1,a2]) 6 (.int .i64 0)) 7 (.int .i64 1)) 8 a1) 9 (.int .i64 0)),19,[],h⟩ (F.ec.cQ K)):=by kernel_rfl
theorem F.A3(hh:EV (ai Tryz.f108) ⟨aC [a0,a1,a2],19,[],h⟩ (RL Tryz.f108 K)=true):Sem TP 108 [a0,a1,a2] h K:=
 SB Tryz.func108 rfl (by decide) (by kernel_rfl) hh
noncomputable def F.de.L0:=partOf (ai Tryz.f109) [1,0,1,0,0]
noncomputable def F.de.cQ(K:Out->Heap->Bool):=(bg 0 (cX false (EV (partOf (ai Tryz.f109) [1,1])) (RL Tryz.f109 K)))
theorem F.de.aT:EV F.de.L0 ⟨e,42,[],h⟩ J=(af (aF .lss (e 10) (e 9)) fun w=>let Q1:=(aa e 11 w);ay w (af (dG 1 (e 8) (e 10)) fun x=>af (ag none x h) fun b=>af (bU .slice b h) fun y=>af (bS 1 (e 3)) fun z=>af (ag none z h) fun A=>af (nA (.int .i64) y A) fun f=>let Q2:=(aa (aa (aa (aa (aa (aa (aa (aa (aa (aa (aa Q1 12 (e 10)) 13 x) 14 b) 5 (e 10)) 6 b) 15 b) 16 y) 17 z) 18 A) 19 f) 20 f);ay f (J .ret ⟨(aa (aa (aa (aa (aa (aa (aa (aa (aa (aa (aa (aa (aa (aa (aa (aa (aa (aa (aa (aa (aa (aa (aa (aa (aa (aa (aa (aa (aa Q2 20 (.bool true)) 21 bI) 20 (.bool true)) 22 bI) 20 (.bool true)) 23 bI) 20 (.bool true)) 24 bI) 25 (.bool true)) 26 (.bool true)) 26 (.bool true)) 27 bI) 26 (.bool true)) 28 bI) 26 (.bool true)) 29 bI) 30 bI) 31 bI) 32 bI) 33 bI) 34 bI) 35 bI) 36 bI) 37 bI) 38 bI) 26 (.bool true)) 39 bI) 40 (.bool true)) 4 (.bool false)),42,[],h⟩) (aA TP 52 [(e 0),b] h (bJ (fun n a=>af (kr .not n) fun c=>let Q3:=(aa (aa (aa (aa (aa (aa (aa (aa (aa (aa Q2 20 (.bool false)) 21 (e 0)) 20 (.bool false)) 22 b) 20 (.bool false)) 23 n) 20 (.bool false)) 24 c) 25 c) 26 c);ay c (J .ret ⟨(aa (aa (aa (aa (aa (aa (aa (aa (aa (aa (aa (aa (aa (aa (aa (aa (aa (aa (aa Q3 26 (.bool true)) 27 bI) 26 (.bool true)) 28 bI) 26 (.bool true)) 29 bI) 30 bI) 31 bI) 32 bI) 33 bI) 34 bI) 35 bI) 36 bI) 37 bI) 38 bI) 26 (.bool true)) 39 bI) 40 (.bool true)) 4 (.bool false)),42,[],a⟩) (af (aF .gtr (e 10) (.int .i64 0)) fun g=>let Q4:=(aa (aa (aa (aa (aa (aa Q3 26 (.bool false)) 27 (e 10)) 26 (.bool false)) 28 g) 26 (.bool false)) 29 g);ay g (af (bS 2 (e 3)) fun i=>af (ag none i a) fun j=>af (aF .sub (e 10) (.int .i64 1)) fun k=>af (dG 1 j k) fun l=>af (ag none l a) fun m=>aA TP 55 [m,b] a (bJ (fun o p=>af (aF .geq o (.int .i64 0)) fun d=>let Q5:=(aa (aa (aa (aa (aa (aa (aa (aa (aa (aa (aa (aa (aa (aa (aa (aa (aa (aa (aa (aa (aa Q4 29 (.bool true)) 30 i) 29 (.bool true)) 31 j) 29 (.bool true)) 32 (e 10)) 29 (.bool true)) 33 k) 29 (.bool true)) 34 l) 29 (.bool true)) 35 m) 29 (.bool true)) 36 b) 29 (.bool true)) 37 o) 29 (.bool true)) 38 d) 26 (.bool false)) 39 d) 40 d);ay d (J .ret ⟨(aa Q5 4 (.bool false)),42,[],p⟩) (af (aF .add (e 10) (.int .i64 1)) fun q=>J .normal ⟨(aa (aa Q5 41 q) 10 q),42,[],p⟩)) (fun s t=>J (.panic s) ⟨(aa (aa (aa (aa (aa (aa (aa (aa (aa (aa (aa (aa (aa (aa (aa Q4 29 (.bool true)) 30 i) 29 (.bool true)) 31 j) 29 (.bool true)) 32 (e 10)) 29 (.bool true)) 33 k) 29 (.bool true)) 34 l) 29 (.bool true)) 35 m) 29 (.bool true)) 36 b) 29 (.bool true)),42,[],t⟩))) (af (aF .add (e 10) (.int .i64 1)) fun r=>J .normal ⟨(aa (aa (aa (aa (aa (aa (aa (aa (aa (aa (aa (aa (aa (aa (aa (aa (aa (aa (aa (aa (aa (aa (aa Q4 29 (.bool false)) 30 bI) 29 (.bool false)) 31 bI) 29 (.bool false)) 32 bI) 29 (.bool false)) 33 bI) 29 (.bool false)) 34 bI) 29 (.bool false)) 35 bI) 29 (.bool false)) 36 bI) 29 (.bool false)) 37 bI) 29 (.bool false)) 38 bI) 26 (.bool false)) 39 (.bool false)) 40 (.bool false)) 41 r) 10 r),42,[],a⟩))) (fun u v=>J (.panic u) ⟨(aa (aa (aa (aa (aa Q2 20 (.bool false)) 21 (e 0)) 20 (.bool false)) 22 b) 20 (.bool false)),42,[],v⟩)))) (J (.exit 0) ⟨Q1,42,[],h⟩)):=by kernel_rfl
theorem F.de.aG:F.de.cQ K (.exit 0) ⟨e,42,[],h⟩=(K (.ret (.bool true)) h):=by kernel_rfl
theorem F.de.bC:F.de.cQ K .ret ⟨e,42,[],h⟩=(K (.ret (e 4)) h):=by kernel_rfl
theorem F.A4:EV (ai Tryz.f109) ⟨aC [a0,a1],42,[],h⟩ (RL Tryz.f109 K)=(af (eX a1) fun a=>af (bS 2 (.ptr (Heap.next h) 0)) fun b=>af (ag none b (Heap.alloc h (.cells a))) fun c=>af (bU .slice c (Heap.alloc h (.cells a))) fun d=>bW (EV F.de.L0) ⟨(aa (aa (aa (aa (aa (aa (aC [a0,a1]) 3 (.ptr (Heap.next h) 0)) 4 (.bool false)) 7 b) 8 c) 9 d) 10 (.int .i64 0)),42,[],(Heap.alloc h (.cells a))⟩ (F.de.cQ K)):=by kernel_rfl
theorem F.zl(hh:EV (ai Tryz.f109) ⟨aC [a0,a1],42,[],h⟩ (RL Tryz.f109 K)=true):Sem TP 109 [a0,a1] h K:=
 SB Tryz.func109 rfl (by decide) (by kernel_rfl) hh
theorem F.jw:EV (ai Tryz.f110) ⟨aC [a0,a1],9,[],h⟩ (RL Tryz.f110 K)=(aA TP 76 [a0,a1] h (bJ (fun a b=>af (aF .geq a (.int .i64 0)) fun c=>K (.ret c) b) (fun d f=>K (.panic d) f))):=by kernel_rfl
theorem F.jl(hh:EV (ai Tryz.f110) ⟨aC [a0,a1],9,[],h⟩ (RL Tryz.f110 K)=true):Sem TP 110 [a0,a1] h K:=
 SB Tryz.func110 rfl (by decide) (by kernel_rfl) hh
theorem F.zm:EV (ai Tryz.f111) ⟨aC [a0,a1],9,[],h⟩ (RL Tryz.f111 K)=(af (eX a0) fun a=>af (bS 0 (.ptr (Heap.next h) 0)) fun b=>af (ag none b (Heap.alloc h (.cells a))) fun c=>af (bS 0 a1) fun d=>af (ag none d (Heap.alloc h (.cells a))) fun f=>af (jA .string c f) fun g=>K (.ret g) (Heap.alloc h (.cells a))):=by kernel_rfl
theorem F.yd(hh:EV (ai Tryz.f111) ⟨aC [a0,a1],9,[],h⟩ (RL Tryz.f111 K)=true):Sem TP 111 [a0,a1] h K:=
 SB Tryz.func111 rfl (by decide) (by kernel_rfl) hh
noncomputable def F.bu.L0:=partOf (ai Tryz.f76) [1,0,1,0,0]
noncomputable def F.bu.cQ(K:Out->Heap->Bool):=(bg 0 (cX false (EV (partOf (ai Tryz.f76) [1,1])) (RL Tryz.f76 K)))
theorem F.bu.aT:EV F.bu.L0 ⟨e,19,[],h⟩ J=(af (aF .lss (e 8) (e 7)) fun c=>let Q1:=(aa e 9 c);ay c (af (dG 3 (e 0) (e 8)) fun a=>af (ag (some 3) a h) fun b=>pg (e 1) fun f9 Rf R4=>aA TP f9 (Rf++([b]++R4)) h (bJ (fun d f=>let Q2:=(aa (aa (aa (aa (aa (aa (aa (aa Q1 10 (e 8)) 5 (e 8)) 11 (e 1)) 12 (e 0)) 13 (e 8)) 14 a) 15 b) 16 d);ay d (J .ret ⟨(aa (aa Q2 17 (e 8)) 4 (e 8)),19,[],f⟩) (af (aF .add (e 8) (.int .i64 1)) fun g=>J .normal ⟨(aa (aa Q2 18 g) 8 g),19,[],f⟩)) (fun i j=>J (.panic i) ⟨(aa (aa (aa (aa (aa (aa (aa Q1 10 (e 8)) 5 (e 8)) 11 (e 1)) 12 (e 0)) 13 (e 8)) 14 a) 15 b),19,[],j⟩))) (J (.exit 0) ⟨Q1,19,[],h⟩)):=by kernel_rfl
theorem F.bu.aG:F.bu.cQ K (.exit 0) ⟨e,19,[],h⟩=(K (.ret (.int .i64 (-1))) h):=by kernel_rfl
theorem F.bu.bC:F.bu.cQ K .ret ⟨e,19,[],h⟩=(K (.ret (e 4)) h):=by kernel_rfl
theorem F.j8:EV (ai Tryz.f76) ⟨aC [a0,a1],19,[],h⟩ (RL Tryz.f76 K)=(af (bU .slice a0 h) fun a=>bW (EV F.bu.L0) ⟨(aa (aa (aa (aa (aC [a0,a1]) 4 (.int .i64 0)) 6 a0) 7 a) 8 (.int .i64 0)),19,[],h⟩ (F.bu.cQ K)):=by kernel_rfl
theorem F.jO(hh:EV (ai Tryz.f76) ⟨aC [a0,a1],19,[],h⟩ (RL Tryz.f76 K)=true):Sem TP 76 [a0,a1] h K:=
 SB Tryz.func76 rfl (by decide) (by kernel_rfl) hh
theorem F.A5:EV (ai Tryz.f94) ⟨aC [a0,a1,a2],15,[],h⟩ (RL Tryz.f94 K)=(af (eX a0) fun a=>af (bS 0 (.ptr (Heap.next h) 0)) fun b=>af (ag none b (Heap.alloc h (.cells a))) fun c=>af (ag none a1 (Heap.alloc h (.cells a))) fun d=>af (jA .string c d) fun f=>ay f (af (bS 1 (.ptr (Heap.next h) 0)) fun g=>af (ag none g (Heap.alloc h (.cells a))) fun i=>af (ag none a2 (Heap.alloc h (.cells a))) fun j=>af (jA (.int .i64) i j) fun k=>K (.ret k) (Heap.alloc h (.cells a))) (K (.ret (.bool false)) (Heap.alloc h (.cells a)))):=by kernel_rfl
theorem F.zn(hh:EV (ai Tryz.f94) ⟨aC [a0,a1,a2],15,[],h⟩ (RL Tryz.f94 K)=true):Sem TP 94 [a0,a1,a2] h K:=
 SB Tryz.func94 rfl (by decide) (by kernel_rfl) hh
theorem F.wH:EV (ai Tryz.f95) ⟨aC [a0,a1],20,[],h⟩ (RL Tryz.f95 K)=(aA TP 136 [a0] h (bJ (fun c d=>aA TP 136 [a1] d (bJ (fun b a=>ay c (ay b (K (.ret (.int .i64 0)) a) (K (.ret (.int .i64 (-1))) a)) (ay b (K (.ret (.int .i64 1)) a) (af (aF .lss a0 a1) fun f=>ay f (K (.ret (.int .i64 (-1))) a) (af (aF .gtr a0 a1) fun g=>ay g (K (.ret (.int .i64 1)) a) (K (.ret (.int .i64 0)) a))))) (fun i j=>K (.panic i) j))) (fun k l=>K (.panic k) l))):=by kernel_rfl
theorem F.vh(hh:EV (ai Tryz.f95) ⟨aC [a0,a1],20,[],h⟩ (RL Tryz.f95 K)=true):Sem TP 95 [a0,a1] h K:=
 SB Tryz.func95 rfl (by decide) (by kernel_rfl) hh
theorem F.vi:EV (ai Tryz.f93) ⟨aC [a0,a1],11,[],h⟩ (RL Tryz.f93 K)=(af (aF .lss a0 (.int .i64 0)) fun a=>ay a (K (.ret (.bool true)) h) (af (ag none a1 h) fun b=>af (aF .geq a0 b) fun c=>K (.ret c) h)):=by kernel_rfl
theorem F.tg(hh:EV (ai Tryz.f93) ⟨aC [a0,a1],11,[],h⟩ (RL Tryz.f93 K)=true):Sem TP 93 [a0,a1] h K:=
 SB Tryz.func93 rfl (by decide) (by kernel_rfl) hh
theorem F.zo:EV (ai Tryz.f136) ⟨aC [a0],6,[],h⟩ (RL Tryz.f136 K)=(af (nA (.int .i64) a0 a0) fun a=>K (.ret a) h):=by kernel_rfl
theorem F.ye(hh:EV (ai Tryz.f136) ⟨aC [a0],6,[],h⟩ (RL Tryz.f136 K)=true):Sem TP 136 [a0] h K:=
 SB Tryz.func136 rfl (by decide) (by kernel_rfl) hh
noncomputable def F.gL.L0:=partOf (ai Tryz.f125) [1,0,1,0,0]
noncomputable def F.gL.cQ(K:Out->Heap->Bool):=(bg 0 (cX false (EV (partOf (ai Tryz.f125) [1,1])) (RL Tryz.f125 K)))
theorem F.gL.aT:EV F.gL.L0 ⟨e,25,[],h⟩ J=(af (bU .slice (e 1) h) fun c=>af (aF .lss (e 5) c) fun d=>let Q1:=(aa (aa (aa (aa e 6 (e 5)) 7 (e 1)) 8 c) 9 d);ay d (af (dG 1 (e 1) (e 5)) fun f=>af (ag none f h) fun g=>af (aF .lss g (.int .i64 0)) fun a=>let Q2:=(aa (aa (aa (aa (aa (aa Q1 12 (e 1)) 13 (e 5)) 14 f) 15 g) 16 a) 17 a);ay a (J .ret ⟨(aa (aa (aa (aa (aa (aa (aa (aa (aa (aa (aa (aa (aa (aa Q2 17 (.bool true)) 18 bI) 17 (.bool true)) 19 bI) 17 (.bool true)) 20 bI) 17 (.bool true)) 21 bI) 17 (.bool true)) 22 bI) 17 (.bool true)) 23 bI) 24 (.bool true)) 4 (.bool false)),25,[],h⟩) (af (dG 1 (e 1) (e 5)) fun i=>af (ag none i h) fun j=>af (aF .geq j (e 0)) fun b=>let Q3:=(aa (aa (aa (aa (aa (aa (aa (aa (aa (aa (aa (aa (aa Q2 17 (.bool false)) 18 (e 1)) 17 (.bool false)) 19 (e 5)) 17 (.bool false)) 20 i) 17 (.bool false)) 21 j) 17 (.bool false)) 22 (e 0)) 17 (.bool false)) 23 b) 24 b);ay b (J .ret ⟨(aa Q3 4 (.bool false)),25,[],h⟩) (af (aF .add (e 5) (.int .i64 1)) fun k=>J .normal ⟨(aa (aa (aa Q3 10 (e 5)) 11 k) 5 k),25,[],h⟩))) (J (.exit 0) ⟨Q1,25,[],h⟩)):=by kernel_rfl
theorem F.gL.aG:F.gL.cQ K (.exit 0) ⟨e,25,[],h⟩=(K (.ret (.bool true)) h):=by kernel_rfl
theorem F.gL.bC:F.gL.cQ K .ret ⟨e,25,[],h⟩=(K (.ret (e 4)) h):=by kernel_rfl
theorem F.Ix:EV (ai Tryz.f125) ⟨aC [a0,a1],25,[],h⟩ (RL Tryz.f125 K)=(bW (EV F.gL.L0) ⟨(aa (aa (aC [a0,a1]) 4 (.bool false)) 5 (.int .i64 0)),25,[],h⟩ (F.gL.cQ K)):=by kernel_rfl
theorem F.GU(hh:EV (ai Tryz.f125) ⟨aC [a0,a1],25,[],h⟩ (RL Tryz.f125 K)=true):Sem TP 125 [a0,a1] h K:=
 SB Tryz.func125 rfl (by decide) (by kernel_rfl) hh
noncomputable def F.bQ.L0:=partOf (ai Tryz.f91) [1,0,1,0,0]
noncomputable def F.bQ.cQ(K:Out->Heap->Bool):=(bg 0 (cX false (EV (partOf (ai Tryz.f91) [1,1])) (RL Tryz.f91 K)))
theorem F.bQ.aT:EV F.bQ.L0 ⟨e,19,[],h⟩ J=(af (aF .lss (e 8) (e 7)) fun c=>let Q1:=(aa e 9 c);ay c (af (dG 1 (e 0) (e 8)) fun a=>af (ag none a h) fun b=>pg (e 1) fun f9 Rf R4=>aA TP f9 (Rf++([b]++R4)) h (bJ (fun d f=>let Q2:=(aa (aa (aa (aa (aa (aa (aa (aa Q1 10 (e 8)) 5 (e 8)) 11 (e 1)) 12 (e 0)) 13 (e 8)) 14 a) 15 b) 16 d);ay d (J .ret ⟨(aa (aa Q2 17 (e 8)) 4 (e 8)),19,[],f⟩) (af (aF .add (e 8) (.int .i64 1)) fun g=>J .normal ⟨(aa (aa Q2 18 g) 8 g),19,[],f⟩)) (fun i j=>J (.panic i) ⟨(aa (aa (aa (aa (aa (aa (aa Q1 10 (e 8)) 5 (e 8)) 11 (e 1)) 12 (e 0)) 13 (e 8)) 14 a) 15 b),19,[],j⟩))) (J (.exit 0) ⟨Q1,19,[],h⟩)):=by kernel_rfl
theorem F.bQ.aG:F.bQ.cQ K (.exit 0) ⟨e,19,[],h⟩=(K (.ret (.int .i64 (-1))) h):=by kernel_rfl
theorem F.bQ.bC:F.bQ.cQ K .ret ⟨e,19,[],h⟩=(K (.ret (e 4)) h):=by kernel_rfl
theorem F.mV:EV (ai Tryz.f91) ⟨aC [a0,a1],19,[],h⟩ (RL Tryz.f91 K)=(af (bU .slice a0 h) fun a=>bW (EV F.bQ.L0) ⟨(aa (aa (aa (aa (aC [a0,a1]) 4 (.int .i64 0)) 6 a0) 7 a) 8 (.int .i64 0)),19,[],h⟩ (F.bQ.cQ K)):=by kernel_rfl
theorem F.mE(hh:EV (ai Tryz.f91) ⟨aC [a0,a1],19,[],h⟩ (RL Tryz.f91 K)=true):Sem TP 91 [a0,a1] h K:=
 SB Tryz.func91 rfl (by decide) (by kernel_rfl) hh
theorem F.lQ:EV (ai Tryz.f47) ⟨aC [a0,a1],9,[],h⟩ (RL Tryz.f47 K)=(aA TP 91 [a0,a1] h (bJ (fun a b=>af (aF .geq a (.int .i64 0)) fun c=>K (.ret c) b) (fun d f=>K (.panic d) f))):=by kernel_rfl
theorem F.lG(hh:EV (ai Tryz.f47) ⟨aC [a0,a1],9,[],h⟩ (RL Tryz.f47 K)=true):Sem TP 47 [a0,a1] h K:=
 SB Tryz.func47 rfl (by decide) (by kernel_rfl) hh
noncomputable def F.gE.L0:=partOf (ai Tryz.f25) [1,1,0,1,0,0]
noncomputable def F.gE.cQ(K:Out->Heap->Bool):=(bg 0 (cX false (EV (partOf (ai Tryz.f25) [1,1,1])) (RL Tryz.f25 K)))
theorem F.gE.aT:EV F.gE.L0 ⟨e,41,[],h⟩ J=(af (bS 1 (e 1)) fun L=>af (ag none L h) fun M=>af (bU .slice M h) fun N=>af (aF .lss (e 4) N) fun O=>let Q1:=(aa (aa (aa (aa (aa e 8 (e 4)) 9 L) 10 M) 11 N) 12 O);ay O (af (bS 1 (e 3)) fun y=>af (ag none y h) fun b=>af (bS 1 (e 1)) fun c=>af (ag none c h) fun d=>af (dG 3 d (e 4)) fun m=>af (bS 0 m) fun f=>af (ag none f h) fun g=>af (bS 1 (e 1)) fun i=>af (ag none i h) fun j=>af (dG 3 j (e 4)) fun n=>af (bS 1 n) fun k=>af (ag none k h) fun l=>af (bS 1 (e 1)) fun o=>af (ag none o h) fun p=>af (dG 3 p (e 4)) fun q=>af (bS 2 q) fun r=>af (ag none r h) fun s=>aA TP 72 [s] h (bJ (fun t a=>if ((af (ag none k a) fun z=>AV.beq z l)&&((af (ag none i a) fun A=>AV.beq A j)&&((af (ag none f a) fun B=>AV.beq B g)&&((af (ag none c a) fun C=>AV.beq C d)&&((af (ag none y a) fun D=>AV.beq D b)&&true)))))=true then (af (iy [(.str []),(.int .i64 0),.ax] [(0,1),(1,1),(2,1)] [g,l,t]) fun u=>af (fS [(.str []),(.int .i64 0),.ax] [(0,3)] [u]) fun E=>cZ (b6 3 48 b (.slice (Heap.next a) 0 1 3) (Heap.alloc a (.cells E))) fun v G=>af (bS 1 (e 3)) fun w=>af (aY 1 w v G) fun I=>af (aF .add (e 4) (.int .i64 1)) fun x=>J .normal ⟨(aa (aa (aa (aa (aa (aa (aa (aa (aa (aa (aa (aa (aa (aa (aa (aa (aa (aa (aa (aa (aa (aa (aa (aa (aa (aa (aa (aa Q1 15 y) 16 b) 17 c) 18 d) 19 (e 4)) 20 m) 21 f) 22 g) 23 i) 24 j) 25 (e 4)) 26 n) 27 k) 28 l) 29 o) 30 p) 31 (e 4)) 32 q) 33 r) 34 s) 35 t) 36 u) 37 (.slice (Heap.next a) 0 1 3)) 38 v) 39 w) 13 (e 4)) 14 x) 4 x),41,[],I⟩) else false) (fun _ _=>false))) (J (.exit 0) ⟨Q1,41,[],h⟩)):=by kernel_rfl
theorem F.gE.aG:F.gE.cQ K (.exit 0) ⟨e,41,[],h⟩=(af (ag (some 2) (e 3) h) fun a=>af (aY 2 (e 2) a h) fun b=>af (dw TP ⟨(aa e 40 a),41,[],b⟩ Tryz.f25.results.toList) fun c=>K (.ret (oneOf c)) b):=by kernel_rfl
theorem F.EF:EV (ai Tryz.f25) ⟨aC [a0],41,[],h⟩ (RL Tryz.f25 K)=(af (eX a0) fun a=>af (bS 0 (.ptr (Heap.next h) 0)) fun b=>af (ag none b (Heap.alloc (Heap.alloc h (.cells a)) (.cells [(.int .i64 0),.ax]))) fun c=>af (iy [(.int .i64 0),.ax] [(0,1)] [c]) fun d=>af (aY 2 (.ptr (Heap.next (Heap.alloc (Heap.alloc h (.cells a)) (.cells [(.int .i64 0),.ax]))) 0) d (Heap.alloc (Heap.alloc (Heap.alloc h (.cells a)) (.cells [(.int .i64 0),.ax])) (.cells [(.int .i64 0),.ax]))) fun f=>bW (EV F.gE.L0) ⟨(aa (aa (aa (aa (aa (aa (aa (aC [a0]) 1 (.ptr (Heap.next h) 0)) 2 (.ptr (Heap.next (Heap.alloc h (.cells a))) 0)) 5 b) 6 c) 7 d) 3 (.ptr (Heap.next (Heap.alloc (Heap.alloc h (.cells a)) (.cells [(.int .i64 0),.ax]))) 0)) 4 (.int .i64 0)),41,[],f⟩ (F.gE.cQ K)):=by kernel_rfl
theorem F.CR(hh:EV (ai Tryz.f25) ⟨aC [a0],41,[],h⟩ (RL Tryz.f25 K)=true):Sem TP 25 [a0] h K:=
 SB Tryz.func25 rfl (by decide) (by kernel_rfl) hh
noncomputable def F.fo.L0:=partOf (ai Tryz.f72) [1,1,0,1,0,0]
noncomputable def F.fo.cQ(K:Out->Heap->Bool):=(bg 0 (cX false (EV (partOf (ai Tryz.f72) [1,1,1])) (RL Tryz.f72 K)))
theorem F.fo.aT:EV F.fo.L0 ⟨e,21,[],h⟩ J=(af (bU .slice (e 0) h) fun c=>af (aF .lss (e 4) c) fun d=>let Q1:=(aa (aa (aa (aa e 5 (e 4)) 6 (e 0)) 7 c) 8 d);ay d (af (fS [] [] []) fun f=>af (dG 1 (e 0) (e 4)) fun g=>af (ag none g (Heap.alloc h (.cells f))) fun i=>cZ (b6 1 8 (.slice (Heap.next h) 0 0 1) i (Heap.alloc h (.cells f))) fun j b=>af (fS [.ax] [(0,1)] [j]) fun l=>cZ (b6 1 24 (e 3) (.slice (Heap.next b) 0 1 1) (Heap.alloc b (.cells l))) fun k m=>af (aF .add (e 4) (.int .i64 1)) fun a=>J .normal ⟨(aa (aa (aa (aa (aa (aa (aa (aa (aa (aa (aa (aa (aa Q1 11 (e 3)) 12 (.slice (Heap.next h) 0 0 1)) 13 (e 0)) 14 (e 4)) 15 g) 16 i) 17 j) 18 (.slice (Heap.next b) 0 1 1)) 19 k) 3 k) 9 (e 4)) 10 a) 4 a),21,[],m⟩) (J (.exit 0) ⟨Q1,21,[],h⟩)):=by kernel_rfl
theorem F.fo.aG:F.fo.cQ K (.exit 0) ⟨e,21,[],h⟩=(K (.ret (e 3)) h):=by kernel_rfl
theorem F.A6:EV (ai Tryz.f72) ⟨aC [a0],21,[],h⟩ (RL Tryz.f72 K)=(bW (EV F.fo.L0) ⟨(aa (aa (aa (aC [a0]) 2 .ax) 3 .ax) 4 (.int .i64 0)),21,[],h⟩ (F.fo.cQ K)):=by kernel_rfl
theorem F.zq(hh:EV (ai Tryz.f72) ⟨aC [a0],21,[],h⟩ (RL Tryz.f72 K)=true):Sem TP 72 [a0] h K:=
 SB Tryz.func72 rfl (by decide) (by kernel_rfl) hh
noncomputable def F.gl.L0:=partOf (ai Tryz.f63) [1,1,1,1,1,0,1,0,0]
noncomputable def F.gl.cQ(K:Out->Heap->Bool):=(bg 0 (cX false (EV (partOf (ai Tryz.f63) [1,1,1,1,1,1])) (RL Tryz.f63 K)))
theorem F.gl.aT:EV F.gl.L0 ⟨e,46,[],h⟩ J=(af (aF .geq (e 11) (.int .i64 0)) fun a=>let Q1:=(aa (aa e 32 (e 11)) 33 a);ay a (af (aF .rem (e 2) (e 0)) fun b=>af (aF .quo (e 2) (e 0)) fun c=>af (dG 1 (e 10) (e 11)) fun d=>af (aY 1 d b h) fun g=>af (aF .sub (e 11) (.int .i64 1)) fun f=>J .normal ⟨(aa (aa (aa (aa (aa (aa (aa (aa (aa (aa (aa (aa (aa Q1 36 (e 10)) 37 (e 11)) 38 (e 2)) 39 (e 0)) 40 b) 41 (e 2)) 42 (e 0)) 43 c) 44 d) 2 c) 34 (e 11)) 35 f) 11 f),46,[],g⟩) (J (.exit 0) ⟨Q1,46,[],h⟩)):=by kernel_rfl
theorem F.gl.aG:F.gl.cQ K (.exit 0) ⟨e,46,[],h⟩=(K (.ret (.tuple [(e 10),(.int .i64 0)])) h):=by kernel_rfl
theorem F.CS:EV (ai Tryz.f63) ⟨aC [a0,a1,a2],46,[],h⟩ (RL Tryz.f63 K)=(aA TP 99 [a0,a1] h (bJ (fun c d=>af (bx c 0) fun f=>af (bx c 1) fun a=>af (nA (.int .i64) a (.int .i64 0)) fun k=>ay k (K (.ret (.tuple [.ax,a])) d) (af (aF .lss a2 (.int .i64 0)) fun g=>ay g (K (.ret (.tuple [.ax,(.int .i64 2)])) d) (af (aF .geq a2 f) fun i=>ay i (K (.ret (.tuple [.ax,(.int .i64 2)])) d) (cZ (gz 1 8 [(.int .i64 0)] a1 a1 d) fun l j=>af (aF .sub a1 (.int .i64 1)) fun b=>bW (EV F.gl.L0) ⟨(aa (aa (aa (aa (aa (aa (aa (aa (aa (aa (aa (aa (aa (aa (aa (aa (aa (aa (aa (aa (aa (aa (aa (aa (aa (aa (aa (aa (aC [a0,a1,a2]) 6 .ax) 7 (.int .i64 0)) 13 a0) 14 a1) 15 c) 12 c) 16 f) 17 a) 8 f) 9 a) 18 a) 19 k) 21 a2) 22 g) 23 g) 23 (.bool false)) 24 a2) 23 (.bool false)) 25 f) 23 (.bool false)) 26 i) 27 i) 28 a1) 29 l) 10 l) 30 a1) 31 b) 11 b),46,[],j⟩ (F.gl.cQ K))))) (fun m n=>K (.panic m) n))):=by kernel_rfl
theorem F.A7(hh:EV (ai Tryz.f63) ⟨aC [a0,a1,a2],46,[],h⟩ (RL Tryz.f63 K)=true):Sem TP 63 [a0,a1,a2] h K:=
 SB Tryz.func63 rfl (by decide) (by kernel_rfl) hh
noncomputable def F.cJ.L0:=partOf (ai Tryz.f46) [1,1,0,1,0,0]
noncomputable def F.cJ.cQ(K:Out->Heap->Bool):=(bg 0 (cX false (EV (partOf (ai Tryz.f46) [1,1,1])) (RL Tryz.f46 K)))
noncomputable def F.cJ.L1:=partOf (ai Tryz.f46) [1,1,0,1,0,0,1,1,0,0,1,1,0,1,0,0]
noncomputable def F.cJ.jU(J:AX->St->Bool):=(bg 2 (cX false (EV (partOf (ai Tryz.f46) [1,1,0,1,0,0,1,1,0,0,1,1,1])) (bg 1 (cX false (EV (partOf (ai Tryz.f46) [1,1,0,1,0,0,1,1,1])) J))))
theorem F.cJ.aT:EV F.cJ.L0 ⟨e,47,[],h⟩ J=(af (aF .lss (e 15) (e 14)) fun m=>ay m (af (dG 3 (e 13) (e 15)) fun o=>af (ag (some 3) o h) fun c=>af (aY 3 (.ptr (Heap.next h) 0) c (Heap.alloc h (.cells [(.str []),(.int .i64 0),.ax]))) fun a=>af (bS 0 (.ptr (Heap.next h) 0)) fun d=>af (ag none d a) fun f=>af (bS 1 (.ptr (Heap.next h) 0)) fun g=>af (ag none g a) fun i=>af (iy [(.str []),(.int .i64 0),.ax] [(0,1),(1,1)] [f,i]) fun j=>af (aY 3 (.ptr (Heap.next a) 0) j (Heap.alloc a (.cells [(.str []),(.int .i64 0),.ax]))) fun b=>af (bS 2 (.ptr (Heap.next h) 0)) fun k=>af (ag none k b) fun l=>af (bU .slice l b) fun n=>bW (EV F.cJ.L1) ⟨(aa (aa (aa (aa (aa (aa (aa (aa (aa (aa (aa (aa (aa (aa e 16 m) 17 o) 18 c) 5 (.ptr (Heap.next h) 0)) 19 d) 20 f) 21 g) 22 i) 23 j) 6 (.ptr (Heap.next a) 0)) 24 k) 25 l) 26 n) 27 (.int .i64 0)),47,[],b⟩ (F.cJ.jU J)) (J (.exit 0) ⟨(aa e 16 m),47,[],h⟩)):=by kernel_rfl
theorem F.cJ.aG:F.cJ.cQ K (.exit 0) ⟨e,47,[],h⟩=(af (ag (some 2) (e 3) h) fun a=>af (aY 2 (e 2) a h) fun b=>af (dw TP ⟨(aa e 46 a),47,[],b⟩ Tryz.f46.results.toList) fun c=>K (.ret (oneOf c)) b):=by kernel_rfl
theorem F.cJ.dh:EV F.cJ.L1 ⟨e,47,[],h⟩ J=(af (aF .lss (e 27) (e 26)) fun c=>ay c (af (dG 1 (e 25) (e 27)) fun g=>af (ag none g h) fun a=>af (bS 2 (e 6)) fun d=>af (ag none d h) fun f=>aA TP 49 [a] h (bJ (fun i b=>if ((af (ag none d b) fun m=>AV.beq m f)&&true)=true then (af (fS [.ax] [(0,1)] [i]) fun n=>cZ (b6 1 24 f (.slice (Heap.next b) 0 1 1) (Heap.alloc b (.cells n))) fun j o=>af (bS 2 (e 6)) fun k=>af (aY 1 k j o) fun p=>af (aF .add (e 27) (.int .i64 1)) fun l=>J .normal ⟨(aa (aa (aa (aa (aa (aa (aa (aa (aa (aa (aa (aa (aa e 28 c) 29 g) 30 a) 8 a) 31 d) 32 f) 33 a) 34 i) 35 (.slice (Heap.next b) 0 1 1)) 36 j) 37 k) 38 l) 27 l),47,[],p⟩) else false) (fun _ _=>false))) (J (.exit 2) ⟨(aa e 28 c),47,[],h⟩)):=by kernel_rfl
theorem F.cJ.cx:F.cJ.jU J (.exit 2) ⟨e,47,[],h⟩=(af (bS 1 (e 3)) fun a=>af (ag none a h) fun b=>af (ag (some 3) (e 6) h) fun c=>af (fS [(.str []),(.int .i64 0),.ax] [(0,3)] [c]) fun i=>cZ (b6 3 48 b (.slice (Heap.next h) 0 1 3) (Heap.alloc h (.cells i))) fun d j=>af (bS 1 (e 3)) fun f=>af (aY 1 f d j) fun k=>af (aF .add (e 15) (.int .i64 1)) fun g=>J .normal ⟨(aa (aa (aa (aa (aa (aa (aa (aa e 39 a) 40 b) 41 c) 42 (.slice (Heap.next h) 0 1 3)) 43 d) 44 f) 45 g) 15 g),47,[],k⟩):=by kernel_rfl
theorem F.vN:EV (ai Tryz.f46) ⟨aC [a0],47,[],h⟩ (RL Tryz.f46 K)=(af (eX a0) fun a=>af (bS 0 (.ptr (Heap.next h) 0)) fun c=>af (ag none c (Heap.alloc (Heap.alloc h (.cells a)) (.cells [(.int .i64 0),.ax]))) fun d=>af (iy [(.int .i64 0),.ax] [(0,1)] [d]) fun f=>af (aY 2 (.ptr (Heap.next (Heap.alloc (Heap.alloc h (.cells a)) (.cells [(.int .i64 0),.ax]))) 0) f (Heap.alloc (Heap.alloc (Heap.alloc h (.cells a)) (.cells [(.int .i64 0),.ax])) (.cells [(.int .i64 0),.ax]))) fun b=>af (bS 1 (.ptr (Heap.next h) 0)) fun g=>af (ag none g b) fun i=>af (bU .slice i b) fun j=>bW (EV F.cJ.L0) ⟨(aa (aa (aa (aa (aa (aa (aa (aa (aa (aa (aC [a0]) 1 (.ptr (Heap.next h) 0)) 2 (.ptr (Heap.next (Heap.alloc h (.cells a))) 0)) 9 c) 10 d) 11 f) 3 (.ptr (Heap.next (Heap.alloc (Heap.alloc h (.cells a)) (.cells [(.int .i64 0),.ax]))) 0)) 12 g) 13 i) 14 j) 15 (.int .i64 0)),47,[],b⟩ (F.cJ.cQ K)):=by kernel_rfl
theorem F.tj(hh:EV (ai Tryz.f46) ⟨aC [a0],47,[],h⟩ (RL Tryz.f46 K)=true):Sem TP 46 [a0] h K:=
 SB Tryz.func46 rfl (by decide) (by kernel_rfl) hh
theorem F.kj:EV (ai Tryz.f49) ⟨aC [a0],8,[],h⟩ (RL Tryz.f49 K)=(af (jA (.slice 3) a0 .ax) fun a=>ay a (K (.ret .ax) h) (af (fS [] [] []) fun b=>cZ (b6 1 8 (.slice (Heap.next h) 0 0 1) a0 (Heap.alloc h (.cells b))) fun c d=>K (.ret c) d)):=by kernel_rfl
theorem F.jP(hh:EV (ai Tryz.f49) ⟨aC [a0],8,[],h⟩ (RL Tryz.f49 K)=true):Sem TP 49 [a0] h K:=
 SB Tryz.func49 rfl (by decide) (by kernel_rfl) hh
noncomputable def F.bH.L0:=partOf (ai Tryz.f23) [1,1,1,1,0,1,0,0]
noncomputable def F.bH.cQ(K:Out->Heap->Bool):=(bg 0 (cX false (EV (partOf (ai Tryz.f23) [1,1,1,1,1])) (RL Tryz.f23 K)))
noncomputable def F.bH.L1:=partOf (ai Tryz.f23) [1,1,1,1,1,0,1,0,0]
noncomputable def F.bH.jU(K:Out->Heap->Bool):=(bg 2 (cX false (EV (partOf (ai Tryz.f23) [1,1,1,1,1,1])) (RL Tryz.f23 K)))
noncomputable def F.bH.L2:=partOf (ai Tryz.f23) [1,1,1,1,1,0,1,0,0,1,0,0,1,0,1,0,0]
noncomputable def F.bH.yN(J:AX->St->Bool):=(bg 4 (cX false (EV (partOf (ai Tryz.f23) [1,1,1,1,1,0,1,0,0,1,0,0,1,1])) (bg 3 (cX false (EV (partOf (ai Tryz.f23) [1,1,1,1,1,0,1,0,0,1,1])) J))))
theorem F.bH.aT:EV F.bH.L0 ⟨e,69,[],h⟩ J=(af (bU .slice (e 5) h) fun a=>af (aF .lss (e 6) a) fun b=>let Q1:=(aa (aa (aa (aa e 25 (e 6)) 26 (e 5)) 27 a) 28 b);ay b (af (ag (some 2) (e 3) h) fun c=>af (dG 1 (e 5) (e 6)) fun d=>af (ag none d h) fun f=>aA TP 69 [c,f] h (bJ (fun g i=>af (aF .geq g (.int .i64 0)) fun j=>let Q2:=(aa (aa (aa (aa (aa (aa (aa Q1 31 c) 32 (e 5)) 33 (e 6)) 34 d) 35 f) 36 g) 37 j);ay j (J .ret ⟨(aa Q2 4 (.int .i64 4)),69,[],i⟩) (af (aF .add (e 6) (.int .i64 1)) fun k=>J .normal ⟨(aa (aa (aa Q2 29 (e 6)) 30 k) 6 k),69,[],i⟩)) (fun _ _=>false))) (J (.exit 0) ⟨Q1,69,[],h⟩)):=by kernel_rfl
theorem F.bH.aG:F.bH.cQ K (.exit 0) ⟨e,69,[],h⟩=(bW (EV F.bH.L1) ⟨(aa e 7 (.int .i64 0)),69,[],h⟩ (F.bH.jU K)):=by kernel_rfl
theorem F.bH.bC:F.bH.cQ K .ret ⟨e,69,[],h⟩=(K (.ret (e 4)) h):=by kernel_rfl
theorem F.bH.dh:EV F.bH.L1 ⟨e,69,[],h⟩ J=(af (bU .slice (e 0) h) fun a=>af (aF .lss (e 7) a) fun b=>let Q1:=(aa (aa (aa (aa e 38 (e 7)) 39 (e 0)) 40 a) 41 b);ay b (bW (EV F.bH.L2) ⟨(aa (aa Q1 8 (.int .i64 1)) 9 (.int .i64 0)),69,[],h⟩ (F.bH.yN J)) (J (.exit 2) ⟨Q1,69,[],h⟩)):=by kernel_rfl
theorem F.bH.cx:F.bH.jU K (.exit 2) ⟨e,69,[],h⟩=(af (ag (some 2) (e 3) h) fun b=>aA TP 70 [(e 0),b] h (bJ (fun c d=>aA TP 66 [c] d (bJ (fun f a=>af (kr .not f) fun g=>ay g (K (.ret (.int .i64 5)) a) (K (.ret (.int .i64 0)) a)) (fun i j=>K (.panic i) j))) (fun k l=>K (.panic k) l))):=by kernel_rfl
theorem F.bH.jC:F.bH.jU K .ret ⟨e,69,[],h⟩=(K (.ret (e 4)) h):=by kernel_rfl
theorem F.bH.mg:EV F.bH.L2 ⟨e,69,[],h⟩ J=(af (dG 3 (e 0) (e 7)) fun b=>af (ag (some 3) b h) fun c=>aA TP 43 [c] h (bJ (fun g a=>af (bU .slice g a) fun i=>af (aF .lss (e 9) i) fun d=>let Q1:=(aa (aa (aa (aa (aa (aa (aa (aa (aa e 44 (e 9)) 45 (e 0)) 46 (e 7)) 47 b) 48 c) 49 g) 50 i) 51 d) 52 d);ay d (af (aF .leq (e 8) (.int .i64 65536)) fun f=>let Q2:=(aa (aa (aa (aa (aa Q1 52 (.bool true)) 53 (e 8)) 52 (.bool true)) 54 f) 55 f);ay f (af (bS 0 (e 3)) fun j=>af (ag none j a) fun k=>af (aF .mul (e 8) k) fun l=>af (aF .add (e 9) (.int .i64 1)) fun m=>J .normal ⟨(aa (aa (aa (aa (aa (aa (aa (aa Q2 58 (e 8)) 59 j) 60 k) 61 l) 8 l) 56 (e 9)) 57 m) 9 m),69,[],a⟩) (J (.exit 4) ⟨Q2,69,[],a⟩)) (J (.exit 4) ⟨(aa (aa (aa (aa (aa Q1 52 (.bool false)) 53 bI) 52 (.bool false)) 54 bI) 55 (.bool false)),69,[],a⟩)) (fun n o=>J (.panic n) ⟨(aa (aa (aa (aa (aa e 44 (e 9)) 45 (e 0)) 46 (e 7)) 47 b) 48 c),69,[],o⟩))):=by kernel_rfl
theorem F.bH.iU:F.bH.yN J (.exit 4) ⟨e,69,[],h⟩=(af (aF .gtr (e 8) (.int .i64 65536)) fun a=>ay a (J .ret ⟨(aa (aa (aa e 62 (e 8)) 63 a) 4 (.int .i64 5)),69,[],h⟩) (af (aF .add (e 7) (.int .i64 1)) fun b=>J .normal ⟨(aa (aa (aa (aa (aa e 62 (e 8)) 63 a) 42 (e 7)) 43 b) 7 b),69,[],h⟩)):=by kernel_rfl
theorem F.CT:EV (ai Tryz.f23) ⟨aC [a0,a1],69,[],h⟩ (RL Tryz.f23 K)=(af (eX a1) fun v=>aA TP 65 [a0] (Heap.alloc h (.cells v)) (bJ (fun r l=>af (kr .not r) fun m=>ay m (K (.ret (.int .i64 1)) l) (af (ag (some 2) (.ptr (Heap.next h) 0) l) fun s=>aA TP 66 [s] l (bJ (fun t u=>af (kr .not t) fun a=>ay a (K (.ret (.int .i64 1)) u) (aA TP 35 [a0] u (bJ (fun c d=>af (ag (some 2) (.ptr (Heap.next h) 0) d) fun b=>aA TP 68 [a0] d (bJ (fun f g=>if ((af (ag (some 2) (.ptr (Heap.next h) 0) g) fun n=>AV.beq n b)&&true)=true then (aA TP 67 [b,f] g (bJ (fun i j=>af (kr .not i) fun k=>ay k (K (.ret (.int .i64 4)) j) (bW (EV F.bH.L0) ⟨(aa (aa (aa (aa (aa (aa (aa (aa (aa (aa (aa (aa (aa (aa (aa (aa (aa (aa (aa (aa (aa (aa (aC [a0,a1]) 3 (.ptr (Heap.next h) 0)) 4 (.int .i64 0)) 10 a0) 11 r) 12 m) 13 m) 13 (.bool false)) 14 s) 13 (.bool false)) 15 t) 13 (.bool false)) 16 a) 17 a) 18 a0) 19 c) 5 c) 20 b) 21 a0) 22 f) 23 i) 24 k) 6 (.int .i64 0)),69,[],j⟩ (F.bH.cQ K))) (fun _ _=>false))) else false) (fun _ _=>false))) (fun o p=>K (.panic o) p)))) (fun w q=>K (.panic w) q)))) (fun x y=>K (.panic x) y))):=by kernel_rfl
theorem F.A8(hh:EV (ai Tryz.f23) ⟨aC [a0,a1],69,[],h⟩ (RL Tryz.f23 K)=true):Sem TP 23 [a0,a1] h K:=
 SB Tryz.func23 rfl (by decide) (by kernel_rfl) hh
noncomputable def F.cy.L0:=partOf (ai Tryz.f68) [1,1,1,1,0,1,0,0]
noncomputable def F.cy.cQ(K:Out->Heap->Bool):=(bg 0 (cX false (EV (partOf (ai Tryz.f68) [1,1,1,1,1])) (RL Tryz.f68 K)))
noncomputable def F.cy.L1:=partOf (ai Tryz.f68) [1,1,1,1,1,1,0,1,0,0]
noncomputable def F.cy.jU(K:Out->Heap->Bool):=(bg 2 (cX false (EV (partOf (ai Tryz.f68) [1,1,1,1,1,1,1])) (RL Tryz.f68 K)))
theorem F.cy.aT:EV F.cy.L0 ⟨e,55,[],h⟩ J=(af (bU .slice (e 5) h) fun t=>af (aF .lss (e 6) t) fun u=>let Q1:=(aa (aa (aa (aa e 13 (e 6)) 14 (e 5)) 15 t) 16 u);ay u (af (dG 2 (e 5) (e 6)) fun a=>af (bS 0 a) fun b=>af (ag none b h) fun c=>aA TP 86 [(e 3),c] h (bJ (fun j d=>af (kr .not j) fun k=>let Q2:=(aa (aa (aa (aa (aa (aa (aa (aa Q1 19 (e 3)) 20 (e 5)) 21 (e 6)) 22 a) 23 b) 24 c) 25 j) 26 k);ay k (af (dG 2 (e 5) (e 6)) fun f=>af (bS 0 f) fun g=>af (ag none g d) fun i=>aA TP 79 [(e 4),i] d (bJ (fun l o=>af (aF .add (e 6) (.int .i64 1)) fun m=>J .normal ⟨(aa (aa (aa (aa (aa (aa (aa (aa (aa (aa (aa Q2 27 (e 4)) 28 (e 5)) 29 (e 6)) 30 f) 31 g) 32 i) 33 l) 4 l) 17 (e 6)) 18 m) 6 m),55,[],o⟩) (fun p q=>J (.panic p) ⟨(aa (aa (aa (aa (aa (aa Q2 27 (e 4)) 28 (e 5)) 29 (e 6)) 30 f) 31 g) 32 i),55,[],q⟩))) (af (aF .add (e 6) (.int .i64 1)) fun n=>J .normal ⟨(aa (aa (aa Q2 17 (e 6)) 18 n) 6 n),55,[],d⟩)) (fun r s=>J (.panic r) ⟨(aa (aa (aa (aa (aa (aa Q1 19 (e 3)) 20 (e 5)) 21 (e 6)) 22 a) 23 b) 24 c),55,[],s⟩))) (J (.exit 0) ⟨Q1,55,[],h⟩)):=by kernel_rfl
theorem F.cy.aG:F.cy.cQ K (.exit 0) ⟨e,55,[],h⟩=(bW (EV F.cy.L1) ⟨(aa (aa e 7 .ax) 8 (.int .i64 0)),55,[],h⟩ (F.cy.jU K)):=by kernel_rfl
theorem F.cy.dh:EV F.cy.L1 ⟨e,55,[],h⟩ J=(af (bU .slice (e 4) h) fun d=>af (aF .lss (e 8) d) fun f=>let Q1:=(aa (aa (aa (aa e 34 (e 8)) 35 (e 4)) 36 d) 37 f);ay f (af (dG 1 (e 4) (e 8)) fun b=>af (ag none b h) fun c=>af (dG 1 (e 4) (e 8)) fun g=>af (ag none g h) fun i=>aA TP 116 [(e 0),i] h (bJ (fun j a=>if ((af (ag none b a) fun n=>AV.beq n c)&&true)=true then (af (iy [(.str []),(.int .i64 0)] [(0,1),(1,1)] [c,j]) fun k=>af (fS [(.str []),(.int .i64 0)] [(0,2)] [k]) fun o=>cZ (b6 2 24 (e 7) (.slice (Heap.next a) 0 1 2) (Heap.alloc a (.cells o))) fun l p=>af (aF .add (e 8) (.int .i64 1)) fun m=>J .normal ⟨(aa (aa (aa (aa (aa (aa (aa (aa (aa (aa (aa (aa (aa (aa (aa (aa (aa (aa Q1 40 (e 7)) 41 (e 4)) 42 (e 8)) 43 b) 44 c) 45 (e 0)) 46 (e 4)) 47 (e 8)) 48 g) 49 i) 50 j) 51 k) 52 (.slice (Heap.next a) 0 1 2)) 53 l) 7 l) 38 (e 8)) 39 m) 8 m),55,[],p⟩) else false) (fun _ _=>false))) (J (.exit 2) ⟨Q1,55,[],h⟩)):=by kernel_rfl
theorem F.cy.cx:F.cy.jU K (.exit 2) ⟨e,55,[],h⟩=(K (.ret (e 7)) h):=by kernel_rfl
theorem F.zu:EV (ai Tryz.f68) ⟨aC [a0],55,[],h⟩ (RL Tryz.f68 K)=(aA TP 35 [a0] h (bJ (fun a c=>aA TP 113 [a0] c (bJ (fun b d=>bW (EV F.cy.L0) ⟨(aa (aa (aa (aa (aa (aa (aa (aa (aa (aC [a0]) 2 .ax) 9 a0) 10 a) 3 a) 4 .ax) 11 a0) 12 b) 5 b) 6 (.int .i64 0)),55,[],d⟩ (F.cy.cQ K)) (fun f g=>K (.panic f) g))) (fun i j=>K (.panic i) j))):=by kernel_rfl
theorem F.yf(hh:EV (ai Tryz.f68) ⟨aC [a0],55,[],h⟩ (RL Tryz.f68 K)=true):Sem TP 68 [a0] h K:=
 SB Tryz.func68 rfl (by decide) (by kernel_rfl) hh
noncomputable def F.ee.L0:=partOf (ai Tryz.f116) [1,1,0,1,0,0]
noncomputable def F.ee.cQ(K:Out->Heap->Bool):=(bg 0 (cX false (EV (partOf (ai Tryz.f116) [1,1,1])) (RL Tryz.f116 K)))
theorem F.ee.aT:EV F.ee.L0 ⟨e,27,[],h⟩ J=(af (bU .slice (e 5) h) fun f=>af (aF .lss (e 6) f) fun g=>let Q1:=(aa (aa (aa (aa e 9 (e 6)) 10 (e 5)) 11 f) 12 g);ay g (af (dG 2 (e 5) (e 6)) fun i=>af (bS 0 i) fun j=>af (ag none j h) fun k=>af (jA .string k (e 1)) fun l=>let Q2:=(aa (aa (aa (aa (aa (aa (aa Q1 15 (e 5)) 16 (e 6)) 17 i) 18 j) 19 k) 20 (e 1)) 21 l);ay l (af (dG 2 (e 5) (e 6)) fun a=>af (bS 1 a) fun b=>af (ag none b h) fun c=>J .ret ⟨(aa (aa (aa (aa (aa (aa Q2 22 (e 5)) 23 (e 6)) 24 a) 25 b) 26 c) 4 c),27,[],h⟩) (af (aF .add (e 6) (.int .i64 1)) fun d=>J .normal ⟨(aa (aa (aa Q2 13 (e 6)) 14 d) 6 d),27,[],h⟩)) (J (.exit 0) ⟨Q1,27,[],h⟩)):=by kernel_rfl
theorem F.ee.aG:F.ee.cQ K (.exit 0) ⟨e,27,[],h⟩=(K (.ret (.int .i64 (-1))) h):=by kernel_rfl
theorem F.ee.bC:F.ee.cQ K .ret ⟨e,27,[],h⟩=(K (.ret (e 4)) h):=by kernel_rfl
theorem F.CU:EV (ai Tryz.f116) ⟨aC [a0,a1],27,[],h⟩ (RL Tryz.f116 K)=(aA TP 113 [a0] h (bJ (fun a b=>bW (EV F.ee.L0) ⟨(aa (aa (aa (aa (aa (aC [a0,a1]) 4 (.int .i64 0)) 7 a0) 8 a) 5 a) 6 (.int .i64 0)),27,[],b⟩ (F.ee.cQ K)) (fun c d=>K (.panic c) d))):=by kernel_rfl
theorem F.A9(hh:EV (ai Tryz.f116) ⟨aC [a0,a1],27,[],h⟩ (RL Tryz.f116 K)=true):Sem TP 116 [a0,a1] h K:=
 SB Tryz.func116 rfl (by decide) (by kernel_rfl) hh
noncomputable def F.fV.L0:=partOf (ai Tryz.f70) [1,1,1,0,1,0,0]
noncomputable def F.fV.cQ(K:Out->Heap->Bool):=(bg 0 (cX false (EV (partOf (ai Tryz.f70) [1,1,1,1])) (RL Tryz.f70 K)))
theorem F.fV.aT:EV F.fV.L0 ⟨e,35,[],h⟩ J=(af (bU .slice (e 6) h) fun g=>af (aF .lss (e 7) g) fun i=>let Q1:=(aa (aa (aa (aa e 12 (e 7)) 13 (e 6)) 14 g) 15 i);ay i (af (bS 1 (e 5)) fun b=>af (ag none b h) fun c=>af (dG 1 (e 6) (e 7)) fun d=>af (ag none d h) fun f=>af (dG 1 (e 6) (e 7)) fun j=>af (ag none j h) fun k=>aA TP 116 [(e 0),k] h (bJ (fun l a=>if ((af (ag none d a) fun q=>AV.beq q f)&&((af (ag none b a) fun r=>AV.beq r c)&&true))=true then (af (iy [(.str []),(.int .i64 0),.ax] [(0,1),(1,1)] [f,l]) fun m=>af (fS [(.str []),(.int .i64 0),.ax] [(0,3)] [m]) fun s=>cZ (b6 3 48 c (.slice (Heap.next a) 0 1 3) (Heap.alloc a (.cells s))) fun n t=>af (bS 1 (e 5)) fun o=>af (aY 1 o n t) fun u=>af (aF .add (e 7) (.int .i64 1)) fun p=>J .normal ⟨(aa (aa (aa (aa (aa (aa (aa (aa (aa (aa (aa (aa (aa (aa (aa (aa (aa (aa (aa Q1 18 b) 19 c) 20 (e 6)) 21 (e 7)) 22 d) 23 f) 24 (e 0)) 25 (e 6)) 26 (e 7)) 27 j) 28 k) 29 l) 30 m) 31 (.slice (Heap.next a) 0 1 3)) 32 n) 33 o) 16 (e 7)) 17 p) 7 p),35,[],u⟩) else false) (fun _ _=>false))) (J (.exit 0) ⟨Q1,35,[],h⟩)):=by kernel_rfl
theorem F.fV.aG:F.fV.cQ K (.exit 0) ⟨e,35,[],h⟩=(af (ag (some 2) (e 5) h) fun a=>af (aY 2 (e 4) a h) fun b=>af (dw TP ⟨(aa e 34 a),35,[],b⟩ Tryz.f70.results.toList) fun c=>K (.ret (oneOf c)) b):=by kernel_rfl
theorem F.CV:EV (ai Tryz.f70) ⟨aC [a0,a1],35,[],h⟩ (RL Tryz.f70 K)=(af (eX a1) fun a=>af (ag (some 2) (.ptr (Heap.next h) 0) (Heap.alloc (Heap.alloc h (.cells a)) (.cells [(.int .i64 0),.ax]))) fun d=>aA TP 25 [d] (Heap.alloc (Heap.alloc h (.cells a)) (.cells [(.int .i64 0),.ax])) (bJ (fun f b=>af (aY 2 (.ptr (Heap.next b) 0) f (Heap.alloc b (.cells [(.int .i64 0),.ax]))) fun i=>aA TP 35 [a0] i (bJ (fun g j=>bW (EV F.fV.L0) ⟨(aa (aa (aa (aa (aa (aa (aa (aa (aa (aC [a0,a1]) 3 (.ptr (Heap.next h) 0)) 4 (.ptr (Heap.next (Heap.alloc h (.cells a))) 0)) 8 d) 9 f) 5 (.ptr (Heap.next b) 0)) 10 a0) 11 g) 6 g) 7 (.int .i64 0)),35,[],j⟩ (F.fV.cQ K)) (fun k c=>K (.panic k) c))) (fun l m=>K (.panic l) m))):=by kernel_rfl
theorem F.Ba(hh:EV (ai Tryz.f70) ⟨aC [a0,a1],35,[],h⟩ (RL Tryz.f70 K)=true):Sem TP 70 [a0,a1] h K:=
 SB Tryz.func70 rfl (by decide) (by kernel_rfl) hh
noncomputable def F.iL.L0:=partOf (ai Tryz.f16) [1,1,0,1,0,0]
noncomputable def F.iL.cQ(K:Out->Heap->Bool):=(bg 0 (cX false (EV (partOf (ai Tryz.f16) [1,1,1])) (RL Tryz.f16 K)))
theorem F.iL.aT:EV F.iL.L0 ⟨e,59,[],h⟩ J=(af (bS 1 (e 2)) fun p=>af (ag none p h) fun q=>af (bU .slice q h) fun r=>af (aF .lss (e 5) r) fun s=>let Q1:=(aa (aa (aa (aa (aa e 22 (e 5)) 23 p) 24 q) 25 r) 26 s);ay s (af (bS 1 (e 2)) fun t=>af (ag none t h) fun u=>af (dG 3 u (e 5)) fun v=>af (ag (some 3) v h) fun w=>af (bS 1 (e 3)) fun c=>af (ag none c h) fun d=>af (dG 3 d (e 5)) fun f=>af (ag (some 3) f h) fun g=>af (aY 3 (.ptr (Heap.next h) 0) w (Heap.alloc (Heap.alloc h (.cells [(.str []),(.int .i64 0),.ax])) (.cells [(.str []),(.int .i64 0),.ax]))) fun i=>if ((af (ag (some 3) f i) fun M=>AV.beq M g)&&((af (ag none c i) fun N=>AV.beq N d)&&true))=true then (af (aY 3 (.ptr (Heap.next (Heap.alloc h (.cells [(.str []),(.int .i64 0),.ax]))) 0) g i) fun a=>af (bS 0 (.ptr (Heap.next h) 0)) fun x=>af (ag none x a) fun y=>af (bS 0 (.ptr (Heap.next (Heap.alloc h (.cells [(.str []),(.int .i64 0),.ax]))) 0)) fun z=>af (ag none z a) fun A=>af (nA .string y A) fun j=>let Q2:=(aa (aa (aa (aa (aa (aa (aa (aa (aa (aa (aa (aa (aa (aa (aa (aa (aa (aa Q1 29 t) 30 u) 31 (e 5)) 32 v) 33 w) 34 c) 35 d) 36 (e 5)) 37 f) 38 g) 6 (.ptr (Heap.next h) 0)) 7 (.ptr (Heap.next (Heap.alloc h (.cells [(.str []),(.int .i64 0),.ax]))) 0)) 39 x) 40 y) 41 z) 42 A) 43 j) 44 j);ay j (J .ret ⟨(aa (aa (aa (aa (aa (aa (aa (aa (aa (aa (aa (aa (aa (aa (aa (aa (aa (aa (aa (aa (aa (aa (aa (aa (aa (aa Q2 44 (.bool true)) 45 bI) 44 (.bool true)) 46 bI) 44 (.bool true)) 47 bI) 44 (.bool true)) 48 bI) 44 (.bool true)) 49 bI) 50 (.bool true)) 51 (.bool true)) 51 (.bool true)) 52 bI) 51 (.bool true)) 53 bI) 51 (.bool true)) 54 bI) 51 (.bool true)) 55 bI) 51 (.bool true)) 56 bI) 51 (.bool true)) 57 bI) 58 (.bool true)) 4 (.bool false)),59,[],a⟩) (af (bS 1 (.ptr (Heap.next h) 0)) fun B=>af (ag none B a) fun C=>af (bS 1 (.ptr (Heap.next (Heap.alloc h (.cells [(.str []),(.int .i64 0),.ax]))) 0)) fun D=>af (ag none D a) fun E=>af (nA (.int .i64) C E) fun b=>let Q3:=(aa (aa (aa (aa (aa (aa (aa (aa (aa (aa (aa (aa Q2 44 (.bool false)) 45 B) 44 (.bool false)) 46 C) 44 (.bool false)) 47 D) 44 (.bool false)) 48 E) 44 (.bool false)) 49 b) 50 b) 51 b);ay b (J .ret ⟨(aa (aa (aa (aa (aa (aa (aa (aa (aa (aa (aa (aa (aa (aa Q3 51 (.bool true)) 52 bI) 51 (.bool true)) 53 bI) 51 (.bool true)) 54 bI) 51 (.bool true)) 55 bI) 51 (.bool true)) 56 bI) 51 (.bool true)) 57 bI) 58 (.bool true)) 4 (.bool false)),59,[],a⟩) (af (bS 2 (.ptr (Heap.next h) 0)) fun k=>af (ag none k a) fun l=>af (bS 2 (.ptr (Heap.next (Heap.alloc h (.cells [(.str []),(.int .i64 0),.ax]))) 0)) fun m=>af (ag none m a) fun n=>aA TP 51 [l,n] a (bJ (fun G I=>af (kr .not G) fun o=>let Q4:=(aa (aa (aa (aa (aa (aa (aa (aa (aa (aa (aa (aa (aa Q3 51 (.bool false)) 52 k) 51 (.bool false)) 53 l) 51 (.bool false)) 54 m) 51 (.bool false)) 55 n) 51 (.bool false)) 56 G) 51 (.bool false)) 57 o) 58 o);ay o (J .ret ⟨(aa Q4 4 (.bool false)),59,[],I⟩) (af (aF .add (e 5) (.int .i64 1)) fun L=>J .normal ⟨(aa (aa (aa Q4 27 (e 5)) 28 L) 5 L),59,[],I⟩)) (fun O P=>J (.panic O) ⟨(aa (aa (aa (aa (aa (aa (aa (aa (aa Q3 51 (.bool false)) 52 k) 51 (.bool false)) 53 l) 51 (.bool false)) 54 m) 51 (.bool false)) 55 n) 51 (.bool false)),59,[],P⟩))))) else false) (J (.exit 0) ⟨Q1,59,[],h⟩)):=by kernel_rfl
theorem F.iL.aG:F.iL.cQ K (.exit 0) ⟨e,59,[],h⟩=(K (.ret (.bool true)) h):=by kernel_rfl
theorem F.EG:EV (ai Tryz.f16) ⟨aC [a0,a1],59,[],h⟩ (RL Tryz.f16 K)=(af (eX a0) fun a=>af (eX a1) fun b=>af (bS 0 (.ptr (Heap.next h) 0)) fun j=>af (ag none j (Heap.alloc (Heap.alloc h (.cells a)) (.cells b))) fun k=>af (bS 0 (.ptr (Heap.next (Heap.alloc h (.cells a))) 0)) fun l=>af (ag none l (Heap.alloc (Heap.alloc h (.cells a)) (.cells b))) fun m=>af (nA (.int .i64) k m) fun i=>ay i (K (.ret (.bool false)) (Heap.alloc (Heap.alloc h (.cells a)) (.cells b))) (af (bS 1 (.ptr (Heap.next h) 0)) fun n=>af (ag none n (Heap.alloc (Heap.alloc h (.cells a)) (.cells b))) fun o=>af (bU .slice o (Heap.alloc (Heap.alloc h (.cells a)) (.cells b))) fun p=>af (bS 1 (.ptr (Heap.next (Heap.alloc h (.cells a))) 0)) fun d=>af (ag none d (Heap.alloc (Heap.alloc h (.cells a)) (.cells b))) fun f=>af (bU .slice f (Heap.alloc (Heap.alloc h (.cells a)) (.cells b))) fun g=>af (nA (.int .i64) p g) fun c=>ay c (K (.ret (.bool false)) (Heap.alloc (Heap.alloc h (.cells a)) (.cells b))) (bW (EV F.iL.L0) ⟨(aa (aa (aa (aa (aa (aa (aa (aa (aa (aa (aa (aa (aa (aa (aa (aa (aa (aa (aa (aa (aa (aa (aa (aa (aa (aC [a0,a1]) 2 (.ptr (Heap.next h) 0)) 3 (.ptr (Heap.next (Heap.alloc h (.cells a))) 0)) 4 (.bool false)) 8 j) 9 k) 10 l) 11 m) 12 i) 13 i) 13 (.bool false)) 14 n) 13 (.bool false)) 15 o) 13 (.bool false)) 16 p) 13 (.bool false)) 17 d) 13 (.bool false)) 18 f) 13 (.bool false)) 19 g) 13 (.bool false)) 20 c) 21 c) 5 (.int .i64 0)),59,[],(Heap.alloc (Heap.alloc h (.cells a)) (.cells b))⟩ (F.iL.cQ K)))):=by kernel_rfl
theorem F.CW(hh:EV (ai Tryz.f16) ⟨aC [a0,a1],59,[],h⟩ (RL Tryz.f16 K)=true):Sem TP 16 [a0,a1] h K:=
 SB Tryz.func16 rfl (by decide) (by kernel_rfl) hh
noncomputable def F.dW.L0:=partOf (ai Tryz.f51) [1,1,0,1,0,0]
noncomputable def F.dW.cQ(K:Out->Heap->Bool):=(bg 0 (cX false (EV (partOf (ai Tryz.f51) [1,1,1])) (RL Tryz.f51 K)))
theorem F.dW.aT:EV F.dW.L0 ⟨e,27,[],h⟩ J=(af (bU .slice (e 0) h) fun d=>af (aF .lss (e 5) d) fun f=>let Q1:=(aa (aa (aa (aa e 11 (e 5)) 12 (e 0)) 13 d) 14 f);ay f (af (dG 1 (e 0) (e 5)) fun g=>af (ag none g h) fun i=>af (dG 1 (e 1) (e 5)) fun j=>af (ag none j h) fun k=>aA TP 20 [i,k] h (bJ (fun l a=>af (kr .not l) fun b=>let Q2:=(aa (aa (aa (aa (aa (aa (aa (aa (aa (aa Q1 17 (e 0)) 18 (e 5)) 19 g) 20 i) 21 (e 1)) 22 (e 5)) 23 j) 24 k) 25 l) 26 b);ay b (J .ret ⟨(aa Q2 4 (.bool false)),27,[],a⟩) (af (aF .add (e 5) (.int .i64 1)) fun c=>J .normal ⟨(aa (aa (aa Q2 15 (e 5)) 16 c) 5 c),27,[],a⟩)) (fun _ _=>false))) (J (.exit 0) ⟨Q1,27,[],h⟩)):=by kernel_rfl
theorem F.dW.aG:F.dW.cQ K (.exit 0) ⟨e,27,[],h⟩=(K (.ret (.bool true)) h):=by kernel_rfl
theorem F.vj:EV (ai Tryz.f51) ⟨aC [a0,a1],27,[],h⟩ (RL Tryz.f51 K)=(af (bU .slice a0 h) fun a=>af (bU .slice a1 h) fun b=>af (nA (.int .i64) a b) fun c=>ay c (K (.ret (.bool false)) h) (bW (EV F.dW.L0) ⟨(aa (aa (aa (aa (aa (aa (aa (aC [a0,a1]) 4 (.bool false)) 6 a0) 7 a) 8 a1) 9 b) 10 c) 5 (.int .i64 0)),27,[],h⟩ (F.dW.cQ K))):=by kernel_rfl
theorem F.tq(hh:EV (ai Tryz.f51) ⟨aC [a0,a1],27,[],h⟩ (RL Tryz.f51 K)=true):Sem TP 51 [a0,a1] h K:=
 SB Tryz.func51 rfl (by decide) (by kernel_rfl) hh
noncomputable def F.cR.L0:=partOf (ai Tryz.f10) [1,1,1,1,0,1,0,0]
noncomputable def F.cR.cQ(K:Out->Heap->Bool):=(bg 0 (cX false (EV (partOf (ai Tryz.f10) [1,1,1,1,1])) (RL Tryz.f10 K)))
noncomputable def F.cR.L1:=partOf (ai Tryz.f10) [1,1,1,1,0,1,0,0,1,0,0,1,0,1,0,0]
noncomputable def F.cR.jU(J:AX->St->Bool):=(bg 2 (cX false (EV (partOf (ai Tryz.f10) [1,1,1,1,0,1,0,0,1,0,0,1,1])) (bg 1 (cX false (EV (partOf (ai Tryz.f10) [1,1,1,1,0,1,0,0,1,1])) J))))
theorem F.cR.aT:EV F.cR.L0 ⟨e,50,[],h⟩ J=(af (bU .slice (e 0) h) fun a=>af (aF .lss (e 8) a) fun b=>let Q1:=(aa (aa (aa (aa e 24 (e 8)) 25 (e 0)) 26 a) 27 b);ay b (bW (EV F.cR.L1) ⟨(aa (aa Q1 9 (.int .i64 1)) 10 (.int .i64 0)),50,[],h⟩ (F.cR.jU J)) (J (.exit 0) ⟨Q1,50,[],h⟩)):=by kernel_rfl
theorem F.cR.aG:F.cR.cQ K (.exit 0) ⟨e,50,[],h⟩=(af (aF .leq (e 7) (e 2)) fun a=>K (.ret a) h):=by kernel_rfl
theorem F.cR.dh:EV F.cR.L1 ⟨e,50,[],h⟩ J=(af (dG 3 (e 0) (e 8)) fun b=>af (ag (some 3) b h) fun c=>aA TP 43 [c] h (bJ (fun d a=>af (bU .slice d a) fun f=>af (aF .lss (e 10) f) fun g=>let Q1:=(aa (aa (aa (aa (aa (aa (aa (aa e 30 (e 10)) 31 (e 0)) 32 (e 8)) 33 b) 34 c) 35 d) 36 f) 37 g);ay g (af (bS 0 (e 4)) fun i=>af (ag none i a) fun j=>af (aF .mul (e 9) j) fun k=>af (aF .add (e 10) (.int .i64 1)) fun l=>J .normal ⟨(aa (aa (aa (aa (aa (aa (aa (aa Q1 40 (e 9)) 41 i) 42 j) 43 k) 9 k) 38 (e 10)) 39 l) 10 l),50,[],a⟩) (J (.exit 2) ⟨Q1,50,[],a⟩)) (fun m n=>J (.panic m) ⟨(aa (aa (aa (aa (aa e 30 (e 10)) 31 (e 0)) 32 (e 8)) 33 b) 34 c),50,[],n⟩))):=by kernel_rfl
theorem F.cR.cx:F.cR.jU J (.exit 2) ⟨e,50,[],h⟩=(af (aF .add (e 7) (e 9)) fun a=>af (aF .add (e 8) (.int .i64 1)) fun b=>J .normal ⟨(aa (aa (aa (aa (aa (aa (aa e 44 (e 7)) 45 (e 9)) 46 a) 7 a) 28 (e 8)) 29 b) 8 b),50,[],h⟩):=by kernel_rfl
theorem F.CX:EV (ai Tryz.f10) ⟨aC [a0,a1,a2],50,[],h⟩ (RL Tryz.f10 K)=(af (eX a1) fun r=>aA TP 41 [a0,(.int .i64 300)] (Heap.alloc h (.cells r)) (bJ (fun o b=>af (kr .not o) fun i=>ay i (K (.ret (.bool false)) b) (af (ag (some 2) (.ptr (Heap.next h) 0) b) fun p=>af (fS [(.int .i64 0),.ax] [(0,2)] [p]) fun s=>aA TP 42 [(.slice (Heap.next b) 0 1 2)] (Heap.alloc b (.cells s)) (bJ (fun q j=>af (kr .not q) fun a=>ay a (K (.ret (.bool false)) j) (af (ag (some 2) (.ptr (Heap.next h) 0) j) fun c=>aA TP 23 [a0,c] j (bJ (fun d f=>af (nA (.int .i64) d (.int .i64 0)) fun g=>ay g (K (.ret (.bool true)) f) (bW (EV F.cR.L0) ⟨(aa (aa (aa (aa (aa (aa (aa (aa (aa (aa (aa (aa (aa (aa (aa (aa (aa (aa (aa (aa (aa (aC [a0,a1,a2]) 4 (.ptr (Heap.next h) 0)) 6 (.bool false)) 11 a0) 12 o) 13 i) 14 i) 14 (.bool false)) 15 p) 14 (.bool false)) 16 (.slice (Heap.next b) 0 1 2)) 14 (.bool false)) 17 q) 14 (.bool false)) 18 a) 19 a) 20 a0) 21 c) 22 d) 23 g) 7 (.int .i64 0)) 8 (.int .i64 0)),50,[],f⟩ (F.cR.cQ K))) (fun k l=>K (.panic k) l)))) (fun m n=>K (.panic m) n)))) (fun t u=>K (.panic t) u))):=by kernel_rfl
theorem F.Bb(hh:EV (ai Tryz.f10) ⟨aC [a0,a1,a2],50,[],h⟩ (RL Tryz.f10 K)=true):Sem TP 10 [a0,a1,a2] h K:=
 SB Tryz.func10 rfl (by decide) (by kernel_rfl) hh
theorem F.CY:EV (ai Tryz.f60) ⟨aC [a0,a1],4,[],h⟩ (RL Tryz.f60 K)=(af (eX a0) fun a=>K (.ret (.tuple [])) (Heap.alloc h (.cells a))):=by kernel_rfl
theorem F.Bc(hh:EV (ai Tryz.f60) ⟨aC [a0,a1],4,[],h⟩ (RL Tryz.f60 K)=true):Sem TP 60 [a0,a1] h K:=
 SB Tryz.func60 rfl (by decide) (by kernel_rfl) hh
end
end Go.AM
namespace Go.AM
open List Nat Bool Option
open Go
noncomputable section
def F1:xu:=fun x=>if x=130 then some (jX (iS sA0 sR0) (jX (iS sA1 sR1) (jX (iS sA2 sR2) (jX (iS sA3 sR3) (jX (iS sA4 sR4) (jX (iS sA5 sR5) (jX (iS sA6 sR6) (jX (iS sA7 sR7) (jX (iS sA8 sR8) (jX (iS sA9 sR9) (iS Yu Yv))))))))))) else if x=53 then some (jX (iS Yw Yx) (jX (dH 20 ZY ZZ) (iS Z0 Z1))) else if x=99 then some (iS Yy Yz) else if x=121 then some (jX (dH 20 YA YB) (jX (dH 20 YC YD) (jX (dH 20 YE YF) (jX (dH 20 YG YH) (jX (dH 20 YI YJ) (jX (dH 20 YK YL) (jX (dH 20 YM YN) (jX (dH 20 YO YP) (jX (dH 20 YQ YR) (jX (dH 20 YS YT) (jX (dH 20 YU YV) (jX (dH 20 YW YX) (jX (dH 20 YY YZ) (jX (dH 20 Y0 Y1) (jX (dH 20 Y2 Y3) (jX (dH 20 Y4 Y5) (jX (dH 20 Y6 Y7) (jX (dH 20 Y8 Y9) (jX (dH 20 Za Zb) (jX (dH 20 Zc Zd) (jX (dH 20 Ze Zf) (jX (dH 20 Zg Zh) (jX (dH 20 Zi Zj) (jX (dH 20 Zk Zl) (jX (dH 20 Zm Zn) (jX (dH 20 Zo Zp) (jX (dH 20 Zq Zr) (jX (dH 20 Zs Zt) (jX (dH 20 Zu Zv) (jX (dH 20 Zw Zx) (jX (dH 20 Zy Zz) (jX (dH 20 ZA ZB) (jX (dH 20 ZC ZD) (jX (dH 20 ZE ZF) (jX (dH 20 ZG ZH) (jX (dH 20 ZI ZJ) (jX (dH 20 ZK ZL) (jX (dH 20 ZM ZN) (jX (dH 20 ZO ZP) (jX (dH 20 ZQ ZR) (jX (dH 20 ZS ZT) (jX (dH 20 ZU ZV) (dH 20 ZW ZX))))))))))))))))))))))))))))))))))))))))))) else F0 x
theorem Iy:iJ TP F1:=by
 have hs:=jW mixed qj sW 200;intro f g hg args h K hK;unfold F1 at hg;split at hg
 ·rename_i e;subst e;cases hg;rcases cr hK with hK|hK
  ·exact cK hs (by kernel_rfl) V3 args h K hK
  rcases cr hK with hK|hK
  ·exact cK hs (by kernel_rfl) V4 args h K hK
  rcases cr hK with hK|hK
  ·exact cK hs (by kernel_rfl) V5 args h K hK
  rcases cr hK with hK|hK
  ·exact cK hs (by kernel_rfl) V6 args h K hK
  rcases cr hK with hK|hK
  ·exact cK hs (by kernel_rfl) V7 args h K hK
  rcases cr hK with hK|hK
  ·exact cK hs (by kernel_rfl) V8 args h K hK
  rcases cr hK with hK|hK
  ·exact cK hs (by kernel_rfl) V9 args h K hK
  rcases cr hK with hK|hK
  ·exact cK hs (by kernel_rfl) Wa args h K hK
  rcases cr hK with hK|hK
  ·exact cK hs (by kernel_rfl) Wb args h K hK
  rcases cr hK with hK|hK
  ·exact cK hs (by kernel_rfl) Wc args h K hK
  exact cK hs (by kernel_rfl) R7 args h K hK
 split at hg
 ·rename_i e;subst e;cases hg;rcases cr hK with hK|hK
  ·exact cK hs (by kernel_rfl) R8 args h K hK
  rcases cr hK with hK|hK
  ·exact aZ hs SX args h K hK
  exact cK hs (by kernel_rfl) SY args h K hK
 split at hg
 ·rename_i e;subst e;cases hg;exact cK hs (by kernel_rfl) R9 args h K hK
 split at hg
 ·rename_i e;subst e;cases hg;rcases cr hK with hK|hK
  ·exact aZ hs Sa args h K hK
  rcases cr hK with hK|hK
  ·exact aZ hs Sb args h K hK
  rcases cr hK with hK|hK
  ·exact aZ hs Sc args h K hK
  rcases cr hK with hK|hK
  ·exact aZ hs Sd args h K hK
  rcases cr hK with hK|hK
  ·exact aZ hs Se args h K hK
  rcases cr hK with hK|hK
  ·exact aZ hs Sf args h K hK
  rcases cr hK with hK|hK
  ·exact aZ hs Sg args h K hK
  rcases cr hK with hK|hK
  ·exact aZ hs Sh args h K hK
  rcases cr hK with hK|hK
  ·exact aZ hs Si args h K hK
  rcases cr hK with hK|hK
  ·exact aZ hs Sj args h K hK
  rcases cr hK with hK|hK
  ·exact aZ hs Sk args h K hK
  rcases cr hK with hK|hK
  ·exact aZ hs Sm args h K hK
  rcases cr hK with hK|hK
  ·exact aZ hs Sn args h K hK
  rcases cr hK with hK|hK
  ·exact aZ hs Sp args h K hK
  rcases cr hK with hK|hK
  ·exact aZ hs Sq args h K hK
  rcases cr hK with hK|hK
  ·exact aZ hs Sr args h K hK
  rcases cr hK with hK|hK
  ·exact aZ hs Ss args h K hK
  rcases cr hK with hK|hK
  ·exact aZ hs Su args h K hK
  rcases cr hK with hK|hK
  ·exact aZ hs Sv args h K hK
  rcases cr hK with hK|hK
  ·exact aZ hs Sw args h K hK
  rcases cr hK with hK|hK
  ·exact aZ hs Sx args h K hK
  rcases cr hK with hK|hK
  ·exact aZ hs Sy args h K hK
  rcases cr hK with hK|hK
  ·exact aZ hs Sz args h K hK
  rcases cr hK with hK|hK
  ·exact aZ hs SA args h K hK
  rcases cr hK with hK|hK
  ·exact aZ hs SC args h K hK
  rcases cr hK with hK|hK
  ·exact aZ hs SD args h K hK
  rcases cr hK with hK|hK
  ·exact aZ hs SE args h K hK
  rcases cr hK with hK|hK
  ·exact aZ hs SF args h K hK
  rcases cr hK with hK|hK
  ·exact aZ hs SG args h K hK
  rcases cr hK with hK|hK
  ·exact aZ hs SH args h K hK
  rcases cr hK with hK|hK
  ·exact aZ hs SI args h K hK
  rcases cr hK with hK|hK
  ·exact aZ hs SJ args h K hK
  rcases cr hK with hK|hK
  ·exact aZ hs SK args h K hK
  rcases cr hK with hK|hK
  ·exact aZ hs SL args h K hK
  rcases cr hK with hK|hK
  ·exact aZ hs SM args h K hK
  rcases cr hK with hK|hK
  ·exact aZ hs SN args h K hK
  rcases cr hK with hK|hK
  ·exact aZ hs SO args h K hK
  rcases cr hK with hK|hK
  ·exact aZ hs SP args h K hK
  rcases cr hK with hK|hK
  ·exact aZ hs SQ args h K hK
  rcases cr hK with hK|hK
  ·exact aZ hs SS args h K hK
  rcases cr hK with hK|hK
  ·exact aZ hs SU args h K hK
  rcases cr hK with hK|hK
  ·exact aZ hs SV args h K hK
  exact aZ hs SW args h K hK
 exact qj f g hg args h K hK
def Z2:List AV:=[(.agg [(.str [80]),(.au [(.str [120]),(.str [121])] 0 2 1)])]
def Z3:AV:=(.bool true)
theorem SZ:bP TP F1 D0 200 138 Z2 Heap.empty (cA false 20 Z3)=true:=by kernel_rfl
def Z4:List AV:=[(.agg [(.str [80]),(.au [(.str [120]),(.str [121])] 0 2 1),(.au [(.int .i64 0),(.bool false),(.str [69]),(.au [(.str [120]),(.str [121])] 0 2 1)] 0 1 4)])]
def Z5:AV:=(.au [(.str [120]),(.str [121])] 0 2 1)
theorem S0:bP TP F1 D0 200 100 Z4 Heap.empty (cA false 20 Z5)=true:=by kernel_rfl
def Z6:List AV:=[(.agg [(.int .i64 0),(.bool false),(.str [69]),(.au [(.str [120]),(.str [121])] 0 2 1)])]
def Z7:AV:=(.bool true)
theorem S1:bP TP F1 D0 200 140 Z6 Heap.empty (cA false 20 Z7)=true:=by kernel_rfl
def Z8:List AV:=[(.agg [(.str [80]),(.au [(.str [120]),(.str [121])] 0 2 1),(.au [(.int .i64 0),(.bool false),(.str [69]),(.au [(.str [120]),(.str [122])] 0 2 1),(.int .i64 0),(.bool false),(.str [80]),(.au [(.str [122]),(.str [121])] 0 2 1)] 0 2 4)])]
def Z9:AV:=(.au [(.str [120]),(.str [121]),(.str [122])] 0 3 1)
theorem S2:bP TP F1 D0 200 100 Z8 Heap.empty (cA false 20 Z9)=true:=by kernel_rfl
def aaa:List AV:=[(.agg [(.int .i64 0),(.bool false),(.str [69]),(.au [(.str [120]),(.str [122])] 0 2 1)])]
def aab:AV:=(.bool true)
theorem S3:bP TP F1 D0 200 140 aaa Heap.empty (cA false 20 aab)=true:=by kernel_rfl
def aac:List AV:=[(.agg [(.int .i64 0),(.bool false),(.str [80]),(.au [(.str [122]),(.str [121])] 0 2 1)])]
def aad:AV:=(.bool true)
theorem S4:bP TP F1 D0 200 140 aac Heap.empty (cA false 20 aad)=true:=by kernel_rfl
def aae:List AV:=[(.agg [(.str [80]),(.au [(.str [120]),(.str [121])] 0 2 1)])]
def aaf:AV:=(.bool true)
theorem S5:bP TP F1 D0 200 138 aae Heap.empty (cA true 20 aaf)=true:=by kernel_rfl
def aag:List AV:=[(.agg [(.str [80]),(.au [(.str [120]),(.str [121])] 0 2 1),(.au [(.int .i64 0),(.bool false),(.str [69]),(.au [(.str [120]),(.str [121])] 0 2 1)] 0 1 4)])]
def aah:AV:=(.au [(.str [120]),(.str [121])] 0 2 1)
theorem S6:bP TP F1 D0 200 100 aag Heap.empty (cA true 20 aah)=true:=by kernel_rfl
def aai:List AV:=[(.agg [(.int .i64 0),(.bool false),(.str [69]),(.au [(.str [120]),(.str [121])] 0 2 1)])]
def aaj:AV:=(.bool true)
theorem S7:bP TP F1 D0 200 140 aai Heap.empty (cA true 20 aaj)=true:=by kernel_rfl
def aak:List AV:=[(.agg [(.str [80]),(.au [(.str [120]),(.str [121])] 0 2 1),(.au [(.int .i64 0),(.bool false),(.str [69]),(.au [(.str [120]),(.str [122])] 0 2 1),(.int .i64 0),(.bool false),(.str [80]),(.au [(.str [122]),(.str [121])] 0 2 1)] 0 2 4)])]
def aal:AV:=(.au [(.str [120]),(.str [121]),(.str [122])] 0 3 1)
theorem S8:bP TP F1 D0 200 100 aak Heap.empty (cA true 20 aal)=true:=by kernel_rfl
def aam:List AV:=[(.agg [(.int .i64 0),(.bool false),(.str [69]),(.au [(.str [120]),(.str [122])] 0 2 1)])]
def aan:AV:=(.bool true)
theorem S9:bP TP F1 D0 200 140 aam Heap.empty (cA true 20 aan)=true:=by kernel_rfl
def aao:List AV:=[(.agg [(.int .i64 0),(.bool false),(.str [80]),(.au [(.str [122]),(.str [121])] 0 2 1)])]
def aap:AV:=(.bool true)
theorem Ta:bP TP F1 D0 200 140 aao Heap.empty (cA true 20 aap)=true:=by kernel_rfl
def aaq:List AV:=[(.agg [(.int .i64 3),(.au [(.str [69]),(.int .i64 2),(.au [(.au [(.int .i64 0),(.int .i64 1)] 0 2 1),(.au [(.int .i64 1),(.int .i64 2)] 0 2 1)] 0 2 1)] 0 1 3)])]
def aar:AV:=(.bool true)
theorem Tb:bP TP F1 D0 200 64 aaq Heap.empty (cA true 20 aar)=true:=by kernel_rfl
def aas:List AV:=[(.int .i64 0),(.agg [(.str [80]),(.au [(.str [120]),(.str [121])] 0 2 1),(.au [(.int .i64 0),(.bool false),(.str [69]),(.au [(.str [120]),(.str [121])] 0 2 1)] 0 1 4)])]
def aat:AV:=(.agg [(.int .i64 0),(.str [80]),(.au [(.str [120]),(.str [121])] 0 2 1),(.au [(.int .i64 0),(.bool false),(.str [69]),(.au [(.str [120]),(.str [121])] 0 2 1)] 0 1 4),(.int .i64 2),(.au [(.int .i64 0),(.int .i64 1)] 0 2 1),(.au [(.au [(.int .i64 0),(.int .i64 1)] 0 2 1)] 0 1 1),(.au [(.int .i64 1)] 0 1 1)])
theorem Tc:bP TP F1 D0 200 102 aas Heap.empty (cA true 20 aat)=true:=by kernel_rfl
def aau:List AV:=[(.int .i64 1),(.agg [(.str [80]),(.au [(.str [120]),(.str [121])] 0 2 1),(.au [(.int .i64 0),(.bool false),(.str [69]),(.au [(.str [120]),(.str [122])] 0 2 1),(.int .i64 0),(.bool false),(.str [80]),(.au [(.str [122]),(.str [121])] 0 2 1)] 0 2 4)])]
def aav:AV:=(.agg [(.int .i64 1),(.str [80]),(.au [(.str [120]),(.str [121])] 0 2 1),(.au [(.int .i64 0),(.bool false),(.str [69]),(.au [(.str [120]),(.str [122])] 0 2 1),(.int .i64 0),(.bool false),(.str [80]),(.au [(.str [122]),(.str [121])] 0 2 1)] 0 2 4),(.int .i64 3),(.au [(.int .i64 0),(.int .i64 1)] 0 2 1),(.au [(.au [(.int .i64 0),(.int .i64 2)] 0 2 1),(.au [(.int .i64 2),(.int .i64 1)] 0 2 1)] 0 2 1),(.au [(.int .i64 2),(.int .i64 2)] 0 2 1)])
theorem Td:bP TP F1 D0 200 102 aau Heap.empty (cA true 20 aav)=true:=by kernel_rfl
def aaw:List AV:=[(.agg [(.int .i64 3),(.au [(.str [69]),(.int .i64 2),(.au [(.au [(.int .i64 0),(.int .i64 1)] 0 2 1),(.au [(.int .i64 1),(.int .i64 2)] 0 2 1)] 0 2 1)] 0 1 3)])]
def aax:AV:=(.bool true)
theorem Te:bP TP F1 D0 200 64 aaw Heap.empty (cA false 20 aax)=true:=by kernel_rfl
def aay:List AV:=[(.agg [(.int .i64 3),(.au [(.str [69]),(.int .i64 2),(.au [(.au [(.int .i64 1),(.int .i64 2)] 0 2 1)] 0 1 1)] 0 1 3)])]
def aaz:AV:=(.bool true)
theorem Tf:bP TP F1 D0 200 64 aay Heap.empty (cA true 20 aaz)=true:=by kernel_rfl
def F2:xu:=fun x=>if x=138 then some (jX (dH 20 Z2 Z3) (iS aae aaf)) else if x=100 then some (jX (dH 20 Z4 Z5) (jX (dH 20 Z8 Z9) (jX (iS aag aah) (iS aak aal)))) else if x=140 then some (jX (dH 20 Z6 Z7) (jX (dH 20 aaa aab) (jX (dH 20 aac aad) (jX (iS aai aaj) (jX (iS aam aan) (iS aao aap)))))) else if x=64 then some (jX (iS aaq aar) (jX (dH 20 aaw aax) (iS aay aaz))) else if x=102 then some (jX (iS aas aat) (iS aau aav)) else F1 x
theorem Iz:iJ TP F2:=by
 have hs:=jW mixed Iy sW 200;intro f g hg args h K hK;unfold F2 at hg;split at hg
 ·rename_i e;subst e;cases hg;rcases cr hK with hK|hK
  ·exact aZ hs SZ args h K hK
  exact cK hs (by kernel_rfl) S5 args h K hK
 split at hg
 ·rename_i e;subst e;cases hg;rcases cr hK with hK|hK
  ·exact aZ hs S0 args h K hK
  rcases cr hK with hK|hK
  ·exact aZ hs S2 args h K hK
  rcases cr hK with hK|hK
  ·exact cK hs (by kernel_rfl) S6 args h K hK
  exact cK hs (by kernel_rfl) S8 args h K hK
 split at hg
 ·rename_i e;subst e;cases hg;rcases cr hK with hK|hK
  ·exact aZ hs S1 args h K hK
  rcases cr hK with hK|hK
  ·exact aZ hs S3 args h K hK
  rcases cr hK with hK|hK
  ·exact aZ hs S4 args h K hK
  rcases cr hK with hK|hK
  ·exact cK hs (by kernel_rfl) S7 args h K hK
  rcases cr hK with hK|hK
  ·exact cK hs (by kernel_rfl) S9 args h K hK
  exact cK hs (by kernel_rfl) Ta args h K hK
 split at hg
 ·rename_i e;subst e;cases hg;rcases cr hK with hK|hK
  ·exact cK hs (by kernel_rfl) Tb args h K hK
  rcases cr hK with hK|hK
  ·exact aZ hs Te args h K hK
  exact cK hs (by kernel_rfl) Tf args h K hK
 split at hg
 ·rename_i e;subst e;cases hg;rcases cr hK with hK|hK
  ·exact cK hs (by kernel_rfl) Tc args h K hK
  exact cK hs (by kernel_rfl) Td args h K hK
 exact Iy f g hg args h K hK
def aaA:List AV:=[(.str [80,40,120,32,121,41,32,58,45,32,69,40,120,32,121,41,46,10,80,40,120,32,121,41,32,58,45,32,69,40,120,32,122,41,44,32,80,40,122,32,121,41,46,10])]
def aaB:AV:=(.tuple [(.au [(.str [80]),(.au [(.str [120]),(.str [121])] 0 2 1),(.au [(.int .i64 0),(.bool false),(.str [69]),(.au [(.str [120]),(.str [121])] 0 2 1)] 0 1 4),(.str [80]),(.au [(.str [120]),(.str [121])] 0 2 1),(.au [(.int .i64 0),(.bool false),(.str [69]),(.au [(.str [120]),(.str [122])] 0 2 1),(.int .i64 0),(.bool false),(.str [80]),(.au [(.str [122]),(.str [121])] 0 2 1)] 0 2 4)] 0 2 3),(.int .i64 0)])
theorem Tg:bP TP F2 D0 200 44 aaA Heap.empty (cA true 20 aaB)=true:=by kernel_rfl
def F3:xu:=fun x=>if x=44 then some (iS aaA aaB) else F2 x
theorem IA:iJ TP F3:=by
 have hs:=jW mixed Iz sW 200;intro f g hg args h K hK;unfold F3 at hg;split at hg
 ·rename_i e;subst e;cases hg;exact cK hs (by kernel_rfl) Tg args h K hK
 exact Iz f g hg args h K hK
def aaC:List AV:=[(.agg [(.int .i64 3),(.au [(.str [69]),(.int .i64 2),(.au [(.au [(.int .i64 0),(.int .i64 1)] 0 2 1),(.au [(.int .i64 1),(.int .i64 2)] 0 2 1)] 0 2 1)] 0 1 3)]),(.str [69]),(.au [(.int .i64 0),(.int .i64 1)] 0 2 1),(.bool false)]
def aaD:AV:=(.tuple [(.agg [(.int .i64 3),(.au [(.str [69]),(.int .i64 2),(.au [(.au [(.int .i64 1),(.int .i64 2)] 0 2 1)] 0 1 1)] 0 1 3)]),(.int .i64 0)])
theorem Th:bP TP F3 D0 200 18 aaC Heap.empty (cA false 20 aaD)=true:=by kernel_rfl
end
end Go.AM