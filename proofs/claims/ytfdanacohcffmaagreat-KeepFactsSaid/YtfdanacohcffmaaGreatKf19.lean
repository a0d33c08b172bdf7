/- Parts of the proof. Conditions: none. -/
import Derived.Test.YtfdanacohcffmaaGreatKf18
set_option linter.unusedVariables false
namespace Go.AM
open List Nat Bool Option
open Go Go.Proofs
noncomputable section
variable {K:Out->Heap->Bool} {h:Heap} {J:AX->St->Bool} {e:Env} {a0 a1 a2:AV}
noncomputable def F.bZ.L0:=partOf (ai Tryz.f42) [1,1,0,1,0,0]
noncomputable def F.bZ.cQ(K:Out->Heap->Bool):=(bf 0 (cV false (EV (partOf (ai Tryz.f42) [1,1,1])) (RL Tryz.f42 K)))
noncomputable def F.bZ.L1:=partOf (ai Tryz.f42) [1,1,0,1,0,0,1,0,0,1,1,0,0]
noncomputable def F.bZ.kJ(J:AX->St->Bool):=(bf 2 (bf 1 (cV false (EV (partOf (ai Tryz.f42) [1,1,0,1,0,0,1,1])) J)))
noncomputable def F.bZ.L2:=partOf (ai Tryz.f42) [1,1,0,1,0,0,1,0,0,1,1,0,0,1,0,0,1,1,1,0,0]
noncomputable def F.bZ.y8(J:AX->St->Bool):=(bf 4 (bf 3 (cV false (EV (partOf (ai Tryz.f42) [1,1,0,1,0,0,1,0,0,1,1,0,0,1,1])) J)))
theorem F.bZ.aT:EV F.bZ.L0 ⟨e,89,[],h⟩ J=(af (bW .slice (e 0) h) fun a=>af (aG .lss (e 5) a) fun b=>let Q1:=(aa (aa (aa (aa e 8 (e 5)) 9 (e 0)) 10 a) 11 b);az b (af (dH 2 (e 0) (e 5)) fun c=>af (bT 1 c) fun d=>af (ag none d h) fun f=>af (bW .slice f h) fun g=>af (aG .gtr g (.int .i64 12)) fun i=>let Q2:=(aa (aa (aa (aa (aa (aa (aa Q1 14 (e 0)) 15 (e 5)) 16 c) 17 d) 18 f) 19 g) 20 i);az i (J .ret ⟨(aa Q2 2 (.bool false)),89,[],h⟩) (bY (EV F.bZ.L1) ⟨(aa Q2 6 (.int .i64 0)),89,[],h⟩ (F.bZ.kJ J))) (J (.exit 0) ⟨Q1,89,[],h⟩)):=by kernel_rfl
theorem F.bZ.aF:F.bZ.cQ K (.exit 0) ⟨e,89,[],h⟩=(af (aG .leq (e 4) (.int .i64 20000)) fun a=>K (.ret a) h):=by kernel_rfl
theorem F.bZ.bB:F.bZ.cQ K .ret ⟨e,89,[],h⟩=(K (.ret (e 2)) h):=by kernel_rfl
theorem F.bZ.dr:EV F.bZ.L1 ⟨e,89,[],h⟩ J=(af (dH 2 (e 0) (e 5)) fun w=>af (bT 1 w) fun x=>af (ag none x h) fun d=>af (bW .slice d h) fun f=>af (aG .lss (e 6) f) fun g=>let Q1:=(aa (aa (aa (aa (aa (aa (aa (aa e 21 (e 6)) 22 (e 0)) 23 (e 5)) 24 w) 25 x) 26 d) 27 f) 28 g);az g (af (dH 2 (e 0) (e 5)) fun i=>af (bT 1 i) fun j=>af (ag none j h) fun k=>af (dH 3 k (e 6)) fun l=>af (bT 2 l) fun m=>af (ag none m h) fun n=>af (bW .slice n h) fun o=>af (aG .add (e 3) o) fun a=>af (aG .gtr a (.int .i64 1500)) fun b=>let Q2:=(aa (aa (aa (aa (aa (aa (aa (aa (aa (aa (aa (aa (aa (aa (aa (aa Q1 31 (e 3)) 32 (e 0)) 33 (e 5)) 34 i) 35 j) 36 k) 37 (e 6)) 38 l) 39 m) 40 n) 41 o) 42 a) 3 a) 43 a) 44 b) 45 b);az b (J .ret ⟨(aa (aa (aa (aa (aa (aa (aa (aa (aa (aa (aa (aa (aa (aa (aa (aa (aa (aa (aa (aa (aa (aa (aa (aa Q2 45 (.bool true)) 46 bI) 45 (.bool true)) 47 bI) 45 (.bool true)) 48 bI) 45 (.bool true)) 49 bI) 45 (.bool true)) 50 bI) 45 (.bool true)) 51 bI) 45 (.bool true)) 52 bI) 45 (.bool true)) 53 bI) 45 (.bool true)) 54 bI) 45 (.bool true)) 55 bI) 45 (.bool true)) 56 bI) 57 (.bool true)) 2 (.bool false)),89,[],h⟩) (af (dH 2 (e 0) (e 5)) fun p=>af (bT 1 p) fun q=>af (ag none q h) fun r=>af (dH 3 r (e 6)) fun s=>af (bT 0 s) fun t=>af (ag none t h) fun u=>af (bW .str u h) fun v=>af (aG .gtr v (.int .i64 1000)) fun c=>let Q3:=(aa (aa (aa (aa (aa (aa (aa (aa (aa (aa (aa (aa (aa (aa (aa (aa (aa (aa (aa (aa (aa (aa (aa Q2 45 (.bool false)) 46 (e 0)) 45 (.bool false)) 47 (e 5)) 45 (.bool false)) 48 p) 45 (.bool false)) 49 q) 45 (.bool false)) 50 r) 45 (.bool false)) 51 (e 6)) 45 (.bool false)) 52 s) 45 (.bool false)) 53 t) 45 (.bool false)) 54 u) 45 (.bool false)) 55 v) 45 (.bool false)) 56 c) 57 c);az c (J .ret ⟨(aa Q3 2 (.bool false)),89,[],h⟩) (bY (EV F.bZ.L2) ⟨(aa Q3 7 (.int .i64 0)),89,[],h⟩ (F.bZ.y8 J)))) (J (.exit 2) ⟨Q1,89,[],h⟩)):=by kernel_rfl
theorem F.bZ.cz:F.bZ.kJ J (.exit 2) ⟨e,89,[],h⟩=(af (aG .add (e 5) (.int .i64 1)) fun a=>J .normal ⟨(aa (aa (aa e 12 (e 5)) 13 a) 5 a),89,[],h⟩):=by kernel_rfl
theorem F.bZ.jG:F.bZ.kJ J .ret ⟨e,89,[],h⟩=(J .ret ⟨e,89,[],h⟩):=by kernel_rfl
theorem F.bZ.mG:EV F.bZ.L2 ⟨e,89,[],h⟩ J=(af (dH 2 (e 0) (e 5)) fun a=>af (bT 1 a) fun b=>af (ag none b h) fun c=>af (dH 3 c (e 6)) fun d=>af (bT 2 d) fun f=>af (ag none f h) fun g=>af (bW .slice g h) fun i=>af (aG .lss (e 7) i) fun j=>let Q1:=(aa (aa (aa (aa (aa (aa (aa (aa (aa (aa (aa (aa e 58 (e 7)) 59 (e 0)) 60 (e 5)) 61 a) 62 b) 63 c) 64 (e 6)) 65 d) 66 f) 67 g) 68 i) 69 j);az j (af (dH 2 (e 0) (e 5)) fun k=>af (bT 1 k) fun l=>af (ag none l h) fun m=>af (dH 3 m (e 6)) fun n=>af (bT 2 n) fun o=>af (ag none o h) fun p=>af (dH 1 p (e 7)) fun q=>af (ag none q h) fun r=>af (bW .slice r h) fun s=>af (aG .add (e 4) s) fun t=>af (aG .add (e 7) (.int .i64 1)) fun u=>J .normal ⟨(aa (aa (aa (aa (aa (aa (aa (aa (aa (aa (aa (aa (aa (aa (aa (aa (aa (aa (aa Q1 72 (e 4)) 73 (e 0)) 74 (e 5)) 75 k) 76 l) 77 m) 78 (e 6)) 79 n) 80 o) 81 p) 82 (e 7)) 83 q) 84 r) 85 s) 86 t) 4 t) 70 (e 7)) 71 u) 7 u),89,[],h⟩) (J (.exit 4) ⟨Q1,89,[],h⟩)):=by kernel_rfl
theorem F.bZ.iZ:F.bZ.y8 J (.exit 4) ⟨e,89,[],h⟩=(af (aG .add (e 6) (.int .i64 1)) fun a=>J .normal ⟨(aa (aa (aa e 29 (e 6)) 30 a) 6 a),89,[],h⟩):=by kernel_rfl
theorem F.Hg:EV (ai Tryz.f42) ⟨aD [a0],89,[],h⟩ (RL Tryz.f42 K)=(bY (EV F.bZ.L0) ⟨(aa (aa (aa (aa (aD [a0]) 2 (.bool false)) 3 (.int .i64 0)) 4 (.int .i64 0)) 5 (.int .i64 0)),89,[],h⟩ (F.bZ.cQ K)):=by kernel_rfl
theorem F.EM(hh:EV (ai Tryz.f42) ⟨aD [a0],89,[],h⟩ (RL Tryz.f42 K)=true):Sem TP 42 [a0] h K:=
 SB Tryz.func42 rfl (by decide) (by kernel_rfl) hh
noncomputable def F.cp.L0:=partOf (ai Tryz.f66) [1,1,0,1,0,0]
noncomputable def F.cp.cQ(K:Out->Heap->Bool):=(bf 0 (cV false (EV (partOf (ai Tryz.f66) [1,1,1])) (RL Tryz.f66 K)))
noncomputable def F.cp.L1:=partOf (ai Tryz.f66) [1,1,0,1,0,0,1,0,0,1,1,0,0]
noncomputable def F.cp.kJ(J:AX->St->Bool):=(bf 2 (bf 1 (cV false (EV (partOf (ai Tryz.f66) [1,1,0,1,0,0,1,1])) J)))
theorem F.cp.aT:EV F.cp.L0 ⟨e,53,[],h⟩ J=(af (bT 1 (e 1)) fun a=>af (ag none a h) fun b=>af (bW .slice b h) fun c=>af (aG .lss (e 3) c) fun d=>let Q1:=(aa (aa (aa (aa (aa e 19 (e 3)) 20 a) 21 b) 22 c) 23 d);az d (af (bT 0 (e 1)) fun f=>af (ag none f h) fun g=>af (bT 1 (e 1)) fun i=>af (ag none i h) fun j=>af (dH 3 j (e 3)) fun k=>af (ag (some 3) k h) fun l=>aB TP 115 [g,l] h (bJ (fun m n=>af (kF .not m) fun o=>let Q2:=(aa (aa (aa (aa (aa (aa (aa (aa (aa Q1 26 f) 27 g) 28 i) 29 j) 30 (e 3)) 31 k) 32 l) 33 m) 34 o);az o (J .ret ⟨(aa Q2 2 (.bool false)),53,[],n⟩) (bY (EV F.cp.L1) ⟨(aa Q2 4 (.int .i64 0)),53,[],n⟩ (F.cp.kJ J))) (fun _ _=>false))) (J (.exit 0) ⟨Q1,53,[],h⟩)):=by kernel_rfl
theorem F.cp.aF:F.cp.cQ K (.exit 0) ⟨e,53,[],h⟩=(K (.ret (.bool true)) h):=by kernel_rfl
theorem F.cp.bB:F.cp.cQ K .ret ⟨e,53,[],h⟩=(K (.ret (e 2)) h):=by kernel_rfl
theorem F.cp.dr:EV F.cp.L1 ⟨e,53,[],h⟩ J=(af (aG .lss (e 4) (e 3)) fun a=>let Q1:=(aa (aa (aa e 35 (e 4)) 36 (e 3)) 37 a);az a (af (bT 1 (e 1)) fun b=>af (ag none b h) fun c=>af (dH 3 c (e 4)) fun d=>af (bT 0 d) fun f=>af (ag none f h) fun g=>af (bT 1 (e 1)) fun i=>af (ag none i h) fun j=>af (dH 3 j (e 3)) fun k=>af (bT 0 k) fun l=>af (ag none l h) fun m=>af (jK .string g m) fun n=>let Q2:=(aa (aa (aa (aa (aa (aa (aa (aa (aa (aa (aa (aa (aa Q1 40 b) 41 c) 42 (e 4)) 43 d) 44 f) 45 g) 46 i) 47 j) 48 (e 3)) 49 k) 50 l) 51 m) 52 n);az n (J .ret ⟨(aa Q2 2 (.bool false)),53,[],h⟩) (af (aG .add (e 4) (.int .i64 1)) fun o=>J .normal ⟨(aa (aa (aa Q2 38 (e 4)) 39 o) 4 o),53,[],h⟩)) (J (.exit 2) ⟨Q1,53,[],h⟩)):=by kernel_rfl
theorem F.cp.cz:F.cp.kJ J (.exit 2) ⟨e,53,[],h⟩=(af (aG .add (e 3) (.int .i64 1)) fun a=>J .normal ⟨(aa (aa (aa e 24 (e 3)) 25 a) 3 a),53,[],h⟩):=by kernel_rfl
theorem F.cp.jG:F.cp.kJ J .ret ⟨e,53,[],h⟩=(J .ret ⟨e,53,[],h⟩):=by kernel_rfl
theorem F.CX:EV (ai Tryz.f66) ⟨aD [a0],53,[],h⟩ (RL Tryz.f66 K)=(af (eZ a0) fun a=>af (bT 0 (.ptr (Heap.next h) 0)) fun f=>af (ag none f (Heap.alloc h (.cells a))) fun g=>af (aG .lss g (.int .i64 1)) fun d=>az d (K (.ret (.bool false)) (Heap.alloc h (.cells a))) (af (bT 0 (.ptr (Heap.next h) 0)) fun i=>af (ag none i (Heap.alloc h (.cells a))) fun j=>af (aG .gtr j (.int .i64 64)) fun c=>az c (K (.ret (.bool false)) (Heap.alloc h (.cells a))) (af (bT 1 (.ptr (Heap.next h) 0)) fun k=>af (ag none k (Heap.alloc h (.cells a))) fun l=>af (bW .slice l (Heap.alloc h (.cells a))) fun m=>af (aG .gtr m (.int .i64 8)) fun b=>az b (K (.ret (.bool false)) (Heap.alloc h (.cells a))) (bY (EV F.cp.L0) ⟨(aa (aa (aa (aa (aa (aa (aa (aa (aa (aa (aa (aa (aa (aa (aa (aa (aa (aa (aa (aa (aa (aa (aa (aa (aD [a0]) 1 (.ptr (Heap.next h) 0)) 2 (.bool false)) 5 f) 6 g) 7 d) 8 d) 8 (.bool false)) 9 i) 8 (.bool false)) 10 j) 8 (.bool false)) 11 c) 12 c) 13 c) 13 (.bool false)) 14 k) 13 (.bool false)) 15 l) 13 (.bool false)) 16 m) 13 (.bool false)) 17 b) 18 b) 3 (.int .i64 0)),53,[],(Heap.alloc h (.cells a))⟩ (F.cp.cQ K))))):=by kernel_rfl
theorem F.Bi(hh:EV (ai Tryz.f66) ⟨aD [a0],53,[],h⟩ (RL Tryz.f66 K)=true):Sem TP 66 [a0] h K:=
 SB Tryz.func66 rfl (by decide) (by kernel_rfl) hh
noncomputable def F.eV.L0:=partOf (ai Tryz.f67) [1,0,1,0,0]
noncomputable def F.eV.cQ(K:Out->Heap->Bool):=(bf 0 (cV false (EV (partOf (ai Tryz.f67) [1,1])) (RL Tryz.f67 K)))
theorem F.eV.aT:EV F.eV.L0 ⟨e,36,[],h⟩ J=(af (bW .slice (e 1) h) fun p=>af (aG .lss (e 5) p) fun q=>let Q1:=(aa (aa (aa (aa e 7 (e 5)) 8 (e 1)) 9 p) 10 q);az q (af (ag (some 2) (e 2) h) fun r=>af (dH 2 (e 1) (e 5)) fun s=>af (bT 0 s) fun t=>af (ag none t h) fun u=>aB TP 69 [r,u] h (bJ (fun b c=>af (aG .lss b (.int .i64 0)) fun o=>let Q2:=(aa (aa (aa (aa (aa (aa (aa (aa (aa (aa (aa Q1 13 r) 14 (e 1)) 15 (e 5)) 16 s) 17 t) 18 u) 19 b) 6 b) 20 b) 21 o) 22 o);az o (J .ret ⟨(aa (aa (aa (aa (aa (aa (aa (aa (aa (aa (aa (aa (aa (aa (aa (aa (aa (aa (aa (aa (aa (aa (aa (aa (aa (aa Q2 22 (.bool true)) 23 bI) 22 (.bool true)) 24 bI) 22 (.bool true)) 25 bI) 22 (.bool true)) 26 bI) 22 (.bool true)) 27 bI) 22 (.bool true)) 28 bI) 22 (.bool true)) 29 bI) 22 (.bool true)) 30 bI) 22 (.bool true)) 31 bI) 22 (.bool true)) 32 bI) 22 (.bool true)) 33 bI) 22 (.bool true)) 34 bI) 35 (.bool true)) 4 (.bool false)),36,[],c⟩) (af (bT 1 (e 2)) fun d=>af (ag none d c) fun f=>af (dH 3 f b) fun g=>af (bT 1 g) fun i=>af (ag none i c) fun j=>af (dH 2 (e 1) (e 5)) fun k=>af (bT 1 k) fun l=>af (ag none l c) fun m=>af (oA (.int .i64) j m) fun a=>let Q3:=(aa (aa (aa (aa (aa (aa (aa (aa (aa (aa (aa (aa (aa (aa (aa (aa (aa (aa (aa (aa (aa (aa (aa (aa (aa Q2 22 (.bool false)) 23 d) 22 (.bool false)) 24 f) 22 (.bool false)) 25 b) 22 (.bool false)) 26 g) 22 (.bool false)) 27 i) 22 (.bool false)) 28 j) 22 (.bool false)) 29 (e 1)) 22 (.bool false)) 30 (e 5)) 22 (.bool false)) 31 k) 22 (.bool false)) 32 l) 22 (.bool false)) 33 m) 22 (.bool false)) 34 a) 35 a);az a (J .ret ⟨(aa Q3 4 (.bool false)),36,[],c⟩) (af (aG .add (e 5) (.int .i64 1)) fun n=>J .normal ⟨(aa (aa (aa Q3 11 (e 5)) 12 n) 5 n),36,[],c⟩))) (fun _ _=>false))) (J (.exit 0) ⟨Q1,36,[],h⟩)):=by kernel_rfl
theorem F.eV.aF:F.eV.cQ K (.exit 0) ⟨e,36,[],h⟩=(K (.ret (.bool true)) h):=by kernel_rfl
theorem F.eV.bB:F.eV.cQ K .ret ⟨e,36,[],h⟩=(K (.ret (e 4)) h):=by kernel_rfl
theorem F.EN:EV (ai Tryz.f67) ⟨aD [a0,a1],36,[],h⟩ (RL Tryz.f67 K)=(af (eZ a0) fun a=>bY (EV F.eV.L0) ⟨(aa (aa (aa (aD [a0,a1]) 2 (.ptr (Heap.next h) 0)) 4 (.bool false)) 5 (.int .i64 0)),36,[],(Heap.alloc h (.cells a))⟩ (F.eV.cQ K)):=by kernel_rfl
theorem F.CY(hh:EV (ai Tryz.f67) ⟨aD [a0,a1],36,[],h⟩ (RL Tryz.f67 K)=true):Sem TP 67 [a0,a1] h K:=
 SB Tryz.func67 rfl (by decide) (by kernel_rfl) hh
noncomputable def F.eW.L0:=partOf (ai Tryz.f69) [1,0,1,0,0]
noncomputable def F.eW.cQ(K:Out->Heap->Bool):=(bf 0 (cV false (EV (partOf (ai Tryz.f69) [1,1])) (RL Tryz.f69 K)))
theorem F.eW.aT:EV F.eW.L0 ⟨e,22,[],h⟩ J=(af (bT 1 (e 2)) fun c=>af (ag none c h) fun d=>af (bW .slice d h) fun f=>af (aG .lss (e 5) f) fun g=>let Q1:=(aa (aa (aa (aa (aa e 6 (e 5)) 7 c) 8 d) 9 f) 10 g);az g (af (bT 1 (e 2)) fun i=>af (ag none i h) fun j=>af (dH 3 j (e 5)) fun k=>af (bT 0 k) fun l=>af (ag none l h) fun m=>af (jK .string m (e 1)) fun a=>let Q2:=(aa (aa (aa (aa (aa (aa (aa (aa Q1 13 i) 14 j) 15 (e 5)) 16 k) 17 l) 18 m) 19 (e 1)) 20 a);az a (J .ret ⟨(aa (aa Q2 21 (e 5)) 4 (e 5)),22,[],h⟩) (af (aG .add (e 5) (.int .i64 1)) fun b=>J .normal ⟨(aa (aa (aa Q2 11 (e 5)) 12 b) 5 b),22,[],h⟩)) (J (.exit 0) ⟨Q1,22,[],h⟩)):=by kernel_rfl
theorem F.eW.aF:F.eW.cQ K (.exit 0) ⟨e,22,[],h⟩=(K (.ret (.int .i64 (-1))) h):=by kernel_rfl
theorem F.eW.bB:F.eW.cQ K .ret ⟨e,22,[],h⟩=(K (.ret (e 4)) h):=by kernel_rfl
theorem F.EO:EV (ai Tryz.f69) ⟨aD [a0,a1],22,[],h⟩ (RL Tryz.f69 K)=(af (eZ a0) fun a=>bY (EV F.eW.L0) ⟨(aa (aa (aa (aD [a0,a1]) 2 (.ptr (Heap.next h) 0)) 4 (.int .i64 0)) 5 (.int .i64 0)),22,[],(Heap.alloc h (.cells a))⟩ (F.eW.cQ K)):=by kernel_rfl
theorem F.CZ(hh:EV (ai Tryz.f69) ⟨aD [a0,a1],22,[],h⟩ (RL Tryz.f69 K)=true):Sem TP 69 [a0,a1] h K:=
 SB Tryz.func69 rfl (by decide) (by kernel_rfl) hh
noncomputable def F.ij.L0:=partOf (ai Tryz.f155) [1,1,0,1,0,0]
noncomputable def F.ij.cQ(K:Out->Heap->Bool):=(bf 0 (cV false (EV (partOf (ai Tryz.f155) [1,1,1])) (RL Tryz.f155 K)))
theorem F.ij.aT:EV F.ij.L0 ⟨e,20,[],h⟩ J=(af (aG .lss (e 6) (e 1)) fun a=>let Q1:=(aa (aa (aa (aa e 7 (e 6)) 8 (e 1)) 9 a) 10 a);az a (af (aG .leq (e 5) (.int .i64 4096)) fun b=>let Q2:=(aa (aa (aa (aa (aa Q1 10 (.bool true)) 11 (e 5)) 10 (.bool true)) 12 b) 13 b);az b (af (aG .mul (e 5) (e 0)) fun c=>af (aG .add (e 6) (.int .i64 1)) fun d=>J .normal ⟨(aa (aa (aa (aa (aa (aa (aa Q2 16 (e 5)) 17 (e 0)) 18 c) 5 c) 14 (e 6)) 15 d) 6 d),20,[],h⟩) (J (.exit 0) ⟨Q2,20,[],h⟩)) (J (.exit 0) ⟨(aa (aa (aa (aa (aa Q1 10 (.bool false)) 11 bI) 10 (.bool false)) 12 bI) 13 (.bool false)),20,[],h⟩)):=by kernel_rfl
theorem F.ij.aF:F.ij.cQ K (.exit 0) ⟨e,20,[],h⟩=(K (.ret (e 5)) h):=by kernel_rfl
theorem F.Hh:EV (ai Tryz.f155) ⟨aD [a0,a1],20,[],h⟩ (RL Tryz.f155 K)=(bY (EV F.ij.L0) ⟨(aa (aa (aa (aD [a0,a1]) 4 (.int .i64 0)) 5 (.int .i64 1)) 6 (.int .i64 0)),20,[],h⟩ (F.ij.cQ K)):=by kernel_rfl
theorem F.EP(hh:EV (ai Tryz.f155) ⟨aD [a0,a1],20,[],h⟩ (RL Tryz.f155 K)=true):Sem TP 155 [a0,a1] h K:=
 SB Tryz.func155 rfl (by decide) (by kernel_rfl) hh
noncomputable def F.dG.L0:=partOf (ai Tryz.f64) [1,1,0,1,0,0]
noncomputable def F.dG.cQ(K:Out->Heap->Bool):=(bf 0 (cV false (EV (partOf (ai Tryz.f64) [1,1,1])) (RL Tryz.f64 K)))
theorem F.dG.aT:EV F.dG.L0 ⟨e,63,[],h⟩ J=(af (aG .lss (e 22) (e 21)) fun y=>let Q1:=(aa e 23 y);az y (af (dH 3 (e 20) (e 22)) fun g=>af (ag (some 3) g h) fun i=>af (aS 3 (.ptr (Heap.next h) 0) i (Heap.alloc h (.cells [(.str []),(.int .i64 0),.ax]))) fun z=>af (bT 0 (.ptr (Heap.next h) 0)) fun j=>af (ag none j z) fun k=>aB TP 107 [k] z (bJ (fun A a=>af (kF .not A) fun l=>let Q2:=(aa (aa (aa (aa (aa (aa (aa (aa (aa (aa Q1 24 (e 22)) 25 g) 26 i) 4 (.ptr (Heap.next h) 0)) 3 (e 22)) 27 j) 28 k) 29 A) 30 l) 31 l);az l (J .ret ⟨(aa (aa (aa (aa (aa (aa (aa (aa (aa (aa (aa (aa (aa (aa (aa (aa (aa (aa (aa (aa (aa (aa (aa (aa (aa (aa (aa (aa (aa (aa (aa (aa (aa (aa (aa (aa (aa (aa (aa (aa (aa (aa Q2 31 (.bool true)) 32 bI) 31 (.bool true)) 33 bI) 31 (.bool true)) 34 bI) 35 (.bool true)) 36 (.bool true)) 36 (.bool true)) 37 bI) 36 (.bool true)) 38 bI) 36 (.bool true)) 39 bI) 40 (.bool true)) 41 (.bool true)) 41 (.bool true)) 42 bI) 41 (.bool true)) 43 bI) 41 (.bool true)) 44 bI) 41 (.bool true)) 45 bI) 41 (.bool true)) 46 bI) 41 (.bool true)) 47 bI) 48 (.bool true)) 49 (.bool true)) 49 (.bool true)) 50 bI) 49 (.bool true)) 51 bI) 49 (.bool true)) 52 bI) 49 (.bool true)) 53 bI) 49 (.bool true)) 54 bI) 55 (.bool true)) 2 (.bool false)),63,[],a⟩) (af (bT 1 (.ptr (Heap.next h) 0)) fun B=>af (ag none B a) fun C=>af (aG .lss C (.int .i64 0)) fun b=>let Q3:=(aa (aa (aa (aa (aa (aa (aa (aa Q2 31 (.bool false)) 32 B) 31 (.bool false)) 33 C) 31 (.bool false)) 34 b) 35 b) 36 b);az b (J .ret ⟨(aa (aa (aa (aa (aa (aa (aa (aa (aa (aa (aa (aa (aa (aa (aa (aa (aa (aa (aa (aa (aa (aa (aa (aa (aa (aa (aa (aa (aa (aa (aa (aa (aa (aa Q3 36 (.bool true)) 37 bI) 36 (.bool true)) 38 bI) 36 (.bool true)) 39 bI) 40 (.bool true)) 41 (.bool true)) 41 (.bool true)) 42 bI) 41 (.bool true)) 43 bI) 41 (.bool true)) 44 bI) 41 (.bool true)) 45 bI) 41 (.bool true)) 46 bI) 41 (.bool true)) 47 bI) 48 (.bool true)) 49 (.bool true)) 49 (.bool true)) 50 bI) 49 (.bool true)) 51 bI) 49 (.bool true)) 52 bI) 49 (.bool true)) 53 bI) 49 (.bool true)) 54 bI) 55 (.bool true)) 2 (.bool false)),63,[],a⟩) (af (bT 1 (.ptr (Heap.next h) 0)) fun D=>af (ag none D a) fun E=>af (aG .gtr E (.int .i64 12)) fun c=>let Q4:=(aa (aa (aa (aa (aa (aa (aa (aa Q3 36 (.bool false)) 37 D) 36 (.bool false)) 38 E) 36 (.bool false)) 39 c) 40 c) 41 c);az c (J .ret ⟨(aa (aa (aa (aa (aa (aa (aa (aa (aa (aa (aa (aa (aa (aa (aa (aa (aa (aa (aa (aa (aa (aa (aa (aa (aa (aa Q4 41 (.bool true)) 42 bI) 41 (.bool true)) 43 bI) 41 (.bool true)) 44 bI) 41 (.bool true)) 45 bI) 41 (.bool true)) 46 bI) 41 (.bool true)) 47 bI) 48 (.bool true)) 49 (.bool true)) 49 (.bool true)) 50 bI) 49 (.bool true)) 51 bI) 49 (.bool true)) 52 bI) 49 (.bool true)) 53 bI) 49 (.bool true)) 54 bI) 55 (.bool true)) 2 (.bool false)),63,[],a⟩) (af (bT 0 (e 1)) fun m=>af (ag none m a) fun n=>af (bT 1 (.ptr (Heap.next h) 0)) fun o=>af (ag none o a) fun p=>aB TP 108 [n,p,(.int .i64 4096)] a (bJ (fun G d=>af (aG .lss G (.int .i64 0)) fun f=>let Q5:=(aa (aa (aa (aa (aa (aa (aa (aa (aa (aa (aa (aa (aa (aa Q4 41 (.bool false)) 42 m) 41 (.bool false)) 43 n) 41 (.bool false)) 44 o) 41 (.bool false)) 45 p) 41 (.bool false)) 46 G) 41 (.bool false)) 47 f) 48 f) 49 f);az f (J .ret ⟨(aa (aa (aa (aa (aa (aa (aa (aa (aa (aa (aa (aa Q5 49 (.bool true)) 50 bI) 49 (.bool true)) 51 bI) 49 (.bool true)) 52 bI) 49 (.bool true)) 53 bI) 49 (.bool true)) 54 bI) 55 (.bool true)) 2 (.bool false)),63,[],d⟩) (af (bT 0 (e 1)) fun q=>af (ag none q d) fun r=>af (ag (some 3) (.ptr (Heap.next h) 0) d) fun s=>aB TP 109 [r,s] d (bJ (fun I t=>af (kF .not I) fun u=>let Q6:=(aa (aa (aa (aa (aa (aa (aa (aa (aa (aa (aa Q5 49 (.bool false)) 50 q) 49 (.bool false)) 51 r) 49 (.bool false)) 52 s) 49 (.bool false)) 53 I) 49 (.bool false)) 54 u) 55 u);az u (J .ret ⟨(aa Q6 2 (.bool false)),63,[],t⟩) (af (bT 1 (e 1)) fun v=>af (ag none v t) fun w=>af (iW (some 3) w none (some (e 22))) fun x=>aB TP 110 [x,(.func 111 [] [(.ptr (Heap.next h) 0)])] t (bJ (fun L M=>let Q7:=(aa (aa (aa (aa (aa (aa Q6 56 v) 57 w) 58 (e 22)) 59 x) 60 (.func 111 [] [(.ptr (Heap.next h) 0)])) 61 L);az L (J .ret ⟨(aa Q7 2 (.bool false)),63,[],M⟩) (af (aG .add (e 22) (.int .i64 1)) fun N=>J .normal ⟨(aa (aa Q7 62 N) 22 N),63,[],M⟩)) (fun O P=>J (.panic O) ⟨(aa (aa (aa (aa (aa Q6 56 v) 57 w) 58 (e 22)) 59 x) 60 (.func 111 [] [(.ptr (Heap.next h) 0)])),63,[],P⟩)))) (fun R S=>J (.panic R) ⟨(aa (aa (aa (aa (aa (aa (aa Q5 49 (.bool false)) 50 q) 49 (.bool false)) 51 r) 49 (.bool false)) 52 s) 49 (.bool false)),63,[],S⟩)))) (fun T U=>J (.panic T) ⟨(aa (aa (aa (aa (aa (aa (aa (aa (aa Q4 41 (.bool false)) 42 m) 41 (.bool false)) 43 n) 41 (.bool false)) 44 o) 41 (.bool false)) 45 p) 41 (.bool false)),63,[],U⟩)))))) (fun V W=>J (.panic V) ⟨(aa (aa (aa (aa (aa (aa (aa Q1 24 (e 22)) 25 g) 26 i) 4 (.ptr (Heap.next h) 0)) 3 (e 22)) 27 j) 28 k),63,[],W⟩))) (J (.exit 0) ⟨Q1,63,[],h⟩)):=by kernel_rfl
theorem F.dG.aF:F.dG.cQ K (.exit 0) ⟨e,63,[],h⟩=(K (.ret (.bool true)) h):=by kernel_rfl
theorem F.dG.bB:F.dG.cQ K .ret ⟨e,63,[],h⟩=(K (.ret (e 2)) h):=by kernel_rfl
theorem F.C0:EV (ai Tryz.f64) ⟨aD [a0],63,[],h⟩ (RL Tryz.f64 K)=(af (eZ a0) fun a=>af (bT 0 (.ptr (Heap.next h) 0)) fun j=>af (ag none j (Heap.alloc h (.cells a))) fun k=>af (aG .lss k (.int .i64 1)) fun g=>az g (K (.ret (.bool false)) (Heap.alloc h (.cells a))) (af (bT 0 (.ptr (Heap.next h) 0)) fun l=>af (ag none l (Heap.alloc h (.cells a))) fun m=>af (aG .gtr m (.int .i64 64)) fun f=>az f (K (.ret (.bool false)) (Heap.alloc h (.cells a))) (af (bT 1 (.ptr (Heap.next h) 0)) fun n=>af (ag none n (Heap.alloc h (.cells a))) fun o=>af (bW .slice o (Heap.alloc h (.cells a))) fun p=>af (aG .gtr p (.int .i64 8)) fun b=>az b (K (.ret (.bool false)) (Heap.alloc h (.cells a))) (af (bT 1 (.ptr (Heap.next h) 0)) fun c=>af (ag none c (Heap.alloc h (.cells a))) fun d=>af (bW .slice d (Heap.alloc h (.cells a))) fun i=>bY (EV F.dG.L0) ⟨(aa (aa (aa (aa (aa (aa (aa (aa (aa (aa (aa (aa (aa (aa (aa (aa (aa (aa (aa (aa (aa (aa (aa (aa (aa (aa (aa (aD [a0]) 1 (.ptr (Heap.next h) 0)) 2 (.bool false)) 5 j) 6 k) 7 g) 8 g) 8 (.bool false)) 9 l) 8 (.bool false)) 10 m) 8 (.bool false)) 11 f) 12 f) 13 f) 13 (.bool false)) 14 n) 13 (.bool false)) 15 o) 13 (.bool false)) 16 p) 13 (.bool false)) 17 b) 18 b) 19 c) 20 d) 21 i) 22 (.int .i64 0)),63,[],(Heap.alloc h (.cells a))⟩ (F.dG.cQ K))))):=by kernel_rfl
theorem F.Bj(hh:EV (ai Tryz.f64) ⟨aD [a0],63,[],h⟩ (RL Tryz.f64 K)=true):Sem TP 64 [a0] h K:=
 SB Tryz.func64 rfl (by decide) (by kernel_rfl) hh
theorem F.ER:EV (ai Tryz.f53) ⟨aD [a0,a1,a2],11,[],h⟩ (RL Tryz.f53 K)=(af (eZ a0) fun a=>af (eZ a1) fun b=>af (eZ a2) fun c=>af (bT 1 (.ptr (Heap.next h) 0)) fun d=>af (ag none d (Heap.alloc (Heap.alloc (Heap.alloc h (.cells a)) (.cells b)) (.cells c))) fun f=>aB TP 76 [f,(.func 94 [] [(.ptr (Heap.next (Heap.alloc h (.cells a))) 0),(.ptr (Heap.next (Heap.alloc (Heap.alloc h (.cells a)) (.cells b))) 0)])] (Heap.alloc (Heap.alloc (Heap.alloc h (.cells a)) (.cells b)) (.cells c)) (bJ (fun g i=>K (.ret g) i) (fun j k=>K (.panic j) k))):=by kernel_rfl
theorem F.C5(hh:EV (ai Tryz.f53) ⟨aD [a0,a1,a2],11,[],h⟩ (RL Tryz.f53 K)=true):Sem TP 53 [a0,a1,a2] h K:=
 SB Tryz.func53 rfl (by decide) (by kernel_rfl) hh
noncomputable def F.bD.L0:=partOf (ai Tryz.f55) [1,0,1,0,0]
noncomputable def F.bD.cQ(K:Out->Heap->Bool):=(bf 0 (cV false (EV (partOf (ai Tryz.f55) [1,1])) (RL Tryz.f55 K)))
theorem F.bD.aT:EV F.bD.L0 ⟨e,36,[],h⟩ J=(af (aG .lss (e 11) (e 10)) fun k=>let Q1:=(aa e 12 k);az k (af (dH 1 (e 9) (e 11)) fun l=>af (ag none l h) fun c=>af (bW .slice (e 1) h) fun m=>af (aG .geq (e 11) m) fun n=>let Q2:=(aa (aa (aa (aa (aa (aa (aa (aa (aa Q1 13 (e 11)) 14 l) 15 c) 5 (e 11)) 6 c) 16 (e 11)) 17 (e 1)) 18 m) 19 n);az n (J .ret ⟨(aa Q2 4 (.int .i64 1)),36,[],h⟩) (af (dH 1 (e 1) (e 11)) fun g=>af (ag none g h) fun a=>aB TP 95 [c,a] h (bJ (fun b o=>af (oA (.int .i64) b (.int .i64 0)) fun d=>let Q3:=(aa (aa (aa (aa (aa (aa (aa (aa (aa (aa (aa Q2 20 (e 1)) 21 (e 11)) 22 g) 23 a) 7 a) 24 c) 25 a) 26 b) 8 b) 27 b) 28 d);az d (J .ret ⟨(aa (aa Q3 29 b) 4 b),36,[],o⟩) (af (aG .add (e 11) (.int .i64 1)) fun f=>J .normal ⟨(aa (aa Q3 30 f) 11 f),36,[],o⟩)) (fun i j=>J (.panic i) ⟨(aa (aa (aa (aa (aa (aa (aa Q2 20 (e 1)) 21 (e 11)) 22 g) 23 a) 7 a) 24 c) 25 a),36,[],j⟩)))) (J (.exit 0) ⟨Q1,36,[],h⟩)):=by kernel_rfl
theorem F.bD.aF:F.bD.cQ K (.exit 0) ⟨e,36,[],h⟩=(af (bW .slice (e 0) h) fun a=>af (bW .slice (e 1) h) fun b=>af (aG .lss a b) fun c=>az c (K (.ret (.int .i64 (-1))) h) (K (.ret (.int .i64 0)) h)):=by kernel_rfl
theorem F.bD.bB:F.bD.cQ K .ret ⟨e,36,[],h⟩=(K (.ret (e 4)) h):=by kernel_rfl
theorem F.jH:EV (ai Tryz.f55) ⟨aD [a0,a1],36,[],h⟩ (RL Tryz.f55 K)=(af (bW .slice a0 h) fun a=>bY (EV F.bD.L0) ⟨(aa (aa (aa (aa (aD [a0,a1]) 4 (.int .i64 0)) 9 a0) 10 a) 11 (.int .i64 0)),36,[],h⟩ (F.bD.cQ K)):=by kernel_rfl
theorem F.jr(hh:EV (ai Tryz.f55) ⟨aD [a0,a1],36,[],h⟩ (RL Tryz.f55 K)=true):Sem TP 55 [a0,a1] h K:=
 SB Tryz.func55 rfl (by decide) (by kernel_rfl) hh
theorem F.yB:EV (ai Tryz.f52) ⟨aD [a0,a1],9,[],h⟩ (RL Tryz.f52 K)=(af (eZ a0) fun a=>aB TP 47 [a1,(.func 93 [] [(.ptr (Heap.next h) 0)])] (Heap.alloc h (.cells a)) (bJ (fun b c=>af (kF .not b) fun d=>K (.ret d) c) (fun f g=>K (.panic f) g))):=by kernel_rfl
theorem F.wY(hh:EV (ai Tryz.f52) ⟨aD [a0,a1],9,[],h⟩ (RL Tryz.f52 K)=true):Sem TP 52 [a0,a1] h K:=
 SB Tryz.func52 rfl (by decide) (by kernel_rfl) hh
theorem F.C6:EV (ai Tryz.f99) ⟨aD [a0,a1],27,[],h⟩ (RL Tryz.f99 K)=(af (aG .lss a0 (.int .i64 1)) fun c=>az c (K (.ret (.tuple [(.int .i64 0),(.int .i64 2)])) h) (af (aG .gtr a0 (.int .i64 64)) fun d=>az d (K (.ret (.tuple [(.int .i64 0),(.int .i64 2)])) h) (af (aG .lss a1 (.int .i64 0)) fun f=>az f (K (.ret (.tuple [(.int .i64 0),(.int .i64 2)])) h) (af (aG .gtr a1 (.int .i64 12)) fun g=>az g (K (.ret (.tuple [(.int .i64 0),(.int .i64 2)])) h) (aB TP 108 [a0,a1,(.int .i64 4096)] h (bJ (fun a b=>af (aG .lss a (.int .i64 0)) fun i=>az i (K (.ret (.tuple [(.int .i64 0),(.int .i64 5)])) b) (K (.ret (.tuple [a,(.int .i64 0)])) b)) (fun j k=>K (.panic j) k))))))):=by kernel_rfl
theorem F.Bk(hh:EV (ai Tryz.f99) ⟨aD [a0,a1],27,[],h⟩ (RL Tryz.f99 K)=true):Sem TP 99 [a0,a1] h K:=
 SB Tryz.func99 rfl (by decide) (by kernel_rfl) hh
noncomputable def F.fM.L0:=partOf (ai Tryz.f115) [1,1,0,1,0,0]
noncomputable def F.fM.cQ(K:Out->Heap->Bool):=(bf 0 (cV false (EV (partOf (ai Tryz.f115) [1,1,1])) (RL Tryz.f115 K)))
theorem F.fM.aT:EV F.fM.L0 ⟨e,72,[],h⟩ J=(af (bT 2 (e 3)) fun g=>af (ag none g h) fun i=>af (bW .slice i h) fun j=>af (aG .lss (e 5) j) fun k=>let Q1:=(aa (aa (aa (aa (aa e 27 (e 5)) 28 g) 29 i) 30 j) 31 k);az k (af (bT 2 (e 3)) fun l=>af (ag none l h) fun m=>af (dH 1 m (e 5)) fun n=>af (ag none n h) fun o=>af (bW .slice o h) fun p=>af (bT 1 (e 3)) fun q=>af (ag none q h) fun r=>af (oA (.int .i64) p r) fun d=>let Q2:=(aa (aa (aa (aa (aa (aa (aa (aa (aa (aa Q1 34 l) 35 m) 36 (e 5)) 37 n) 38 o) 39 p) 40 q) 41 r) 42 d) 43 d);az d (J .ret ⟨(aa (aa (aa (aa (aa (aa (aa (aa (aa (aa (aa (aa (aa (aa (aa (aa (aa (aa (aa (aa (aa (aa (aa (aa (aa (aa (aa (aa (aa (aa (aa (aa (aa (aa (aa (aa (aa (aa (aa (aa (aa Q2 43 (.bool true)) 44 bI) 43 (.bool true)) 45 bI) 43 (.bool true)) 46 bI) 43 (.bool true)) 47 bI) 43 (.bool true)) 48 bI) 43 (.bool true)) 49 bI) 43 (.bool true)) 50 bI) 43 (.bool true)) 51 bI) 52 (.bool true)) 53 (.bool true)) 53 (.bool true)) 54 bI) 53 (.bool true)) 55 bI) 53 (.bool true)) 56 bI) 57 bI) 58 bI) 59 bI) 60 bI) 61 bI) 62 bI) 63 bI) 64 bI) 65 bI) 66 bI) 67 bI) 68 bI) 69 bI) 53 (.bool true)) 70 bI) 71 (.bool true)) 4 (.bool false)),72,[],h⟩) (af (bT 2 (e 3)) fun s=>af (ag none s h) fun t=>af (dH 1 t (e 5)) fun u=>af (ag none u h) fun v=>aB TP 125 [(e 0),v] h (bJ (fun w a=>af (kF .not w) fun b=>let Q3:=(aa (aa (aa (aa (aa (aa (aa (aa (aa (aa (aa (aa (aa (aa (aa (aa (aa (aa Q2 43 (.bool false)) 44 (e 0)) 43 (.bool false)) 45 s) 43 (.bool false)) 46 t) 43 (.bool false)) 47 (e 5)) 43 (.bool false)) 48 u) 43 (.bool false)) 49 v) 43 (.bool false)) 50 w) 43 (.bool false)) 51 b) 52 b) 53 b);az b (J .ret ⟨(aa (aa (aa (aa (aa (aa (aa (aa (aa (aa (aa (aa (aa (aa (aa (aa (aa (aa (aa (aa (aa (aa (aa Q3 53 (.bool true)) 54 bI) 53 (.bool true)) 55 bI) 53 (.bool true)) 56 bI) 57 bI) 58 bI) 59 bI) 60 bI) 61 bI) 62 bI) 63 bI) 64 bI) 65 bI) 66 bI) 67 bI) 68 bI) 69 bI) 53 (.bool true)) 70 bI) 71 (.bool true)) 4 (.bool false)),72,[],a⟩) (af (aG .gtr (e 5) (.int .i64 0)) fun f=>let Q4:=(aa (aa (aa (aa (aa (aa Q3 53 (.bool false)) 54 (e 5)) 53 (.bool false)) 55 f) 53 (.bool false)) 56 f);az f (af (bT 2 (e 3)) fun x=>af (ag none x a) fun y=>af (aG .sub (e 5) (.int .i64 1)) fun z=>af (dH 1 y z) fun A=>af (ag none A a) fun B=>af (bT 2 (e 3)) fun C=>af (ag none C a) fun D=>af (dH 1 D (e 5)) fun E=>af (ag none E a) fun G=>aB TP 156 [B,G] a (bJ (fun I L=>af (kF .not I) fun c=>let Q5:=(aa (aa (aa (aa (aa (aa (aa (aa (aa (aa (aa (aa (aa (aa (aa (aa (aa (aa (aa (aa (aa (aa (aa (aa (aa (aa (aa (aa (aa Q4 56 (.bool true)) 57 x) 56 (.bool true)) 58 y) 56 (.bool true)) 59 (e 5)) 56 (.bool true)) 60 z) 56 (.bool true)) 61 A) 56 (.bool true)) 62 B) 56 (.bool true)) 63 C) 56 (.bool true)) 64 D) 56 (.bool true)) 65 (e 5)) 56 (.bool true)) 66 E) 56 (.bool true)) 67 G) 56 (.bool true)) 68 I) 56 (.bool true)) 69 c) 53 (.bool false)) 70 c) 71 c);az c (J .ret ⟨(aa Q5 4 (.bool false)),72,[],L⟩) (af (aG .add (e 5) (.int .i64 1)) fun M=>J .normal ⟨(aa (aa (aa Q5 32 (e 5)) 33 M) 5 M),72,[],L⟩)) (fun _ _=>false))) (af (aG .add (e 5) (.int .i64 1)) fun N=>J .normal ⟨(aa (aa (aa (aa (aa (aa (aa (aa (aa (aa (aa (aa (aa (aa (aa (aa (aa (aa (aa (aa (aa (aa (aa (aa (aa (aa (aa (aa (aa (aa (aa (aa Q4 56 (.bool false)) 57 bI) 56 (.bool false)) 58 bI) 56 (.bool false)) 59 bI) 56 (.bool false)) 60 bI) 56 (.bool false)) 61 bI) 56 (.bool false)) 62 bI) 56 (.bool false)) 63 bI) 56 (.bool false)) 64 bI) 56 (.bool false)) 65 bI) 56 (.bool false)) 66 bI) 56 (.bool false)) 67 bI) 56 (.bool false)) 68 bI) 56 (.bool false)) 69 bI) 53 (.bool false)) 70 (.bool false)) 71 (.bool false)) 32 (e 5)) 33 N) 5 N),72,[],a⟩))) (fun _ _=>false)))) (J (.exit 0) ⟨Q1,72,[],h⟩)):=by kernel_rfl
theorem F.fM.aF:F.fM.cQ K (.exit 0) ⟨e,72,[],h⟩=(K (.ret (.bool true)) h):=by kernel_rfl
theorem F.fM.bB:F.fM.cQ K .ret ⟨e,72,[],h⟩=(K (.ret (e 4)) h):=by kernel_rfl
theorem F.Hi:EV (ai Tryz.f115) ⟨aD [a0,a1],72,[],h⟩ (RL Tryz.f115 K)=(af (eZ a1) fun p=>af (bT 0 (.ptr (Heap.next h) 0)) fun q=>af (ag none q (Heap.alloc h (.cells p))) fun r=>aB TP 153 [r] (Heap.alloc h (.cells p)) (bJ (fun s c=>af (kF .not s) fun m=>az m (K (.ret (.bool false)) c) (af (bT 1 (.ptr (Heap.next h) 0)) fun t=>af (ag none t c) fun u=>af (aG .lss u (.int .i64 0)) fun a=>az a (K (.ret (.bool false)) c) (af (bT 1 (.ptr (Heap.next h) 0)) fun f=>af (ag none f c) fun g=>af (aG .gtr g (.int .i64 12)) fun b=>az b (K (.ret (.bool false)) c) (af (bT 1 (.ptr (Heap.next h) 0)) fun i=>af (ag none i c) fun j=>aB TP 155 [a0,j] c (bJ (fun k l=>af (aG .gtr k (.int .i64 4096)) fun d=>az d (K (.ret (.bool false)) l) (bY (EV F.fM.L0) ⟨(aa (aa (aa (aa (aa (aa (aa (aa (aa (aa (aa (aa (aa (aa (aa (aa (aa (aa (aa (aa (aa (aa (aa (aa (aa (aa (aa (aa (aa (aa (aa (aa (aa (aa (aa (aD [a0,a1]) 3 (.ptr (Heap.next h) 0)) 4 (.bool false)) 6 q) 7 r) 8 s) 9 m) 10 m) 10 (.bool false)) 11 t) 10 (.bool false)) 12 u) 10 (.bool false)) 13 a) 14 a) 15 a) 15 (.bool false)) 16 f) 15 (.bool false)) 17 g) 15 (.bool false)) 18 b) 19 b) 20 b) 20 (.bool false)) 21 a0) 20 (.bool false)) 22 i) 20 (.bool false)) 23 j) 20 (.bool false)) 24 k) 20 (.bool false)) 25 d) 26 d) 5 (.int .i64 0)),72,[],l⟩ (F.fM.cQ K))) (fun n o=>K (.panic n) o)))))) (fun v w=>K (.panic v) w))):=by kernel_rfl
theorem F.ES(hh:EV (ai Tryz.f115) ⟨aD [a0,a1],72,[],h⟩ (RL Tryz.f115 K)=true):Sem TP 115 [a0,a1] h K:=
 SB Tryz.func115 rfl (by decide) (by kernel_rfl) hh
noncomputable def F.fG.L0:=partOf (ai Tryz.f156) [1,0,1,0,0]
noncomputable def F.fG.cQ(K:Out->Heap->Bool):=(bf 0 (cV false (EV (partOf (ai Tryz.f156) [1,1])) (RL Tryz.f156 K)))
theorem F.fG.aT:EV F.fG.L0 ⟨e,30,[],h⟩ J=(af (bW .slice (e 0) h) fun d=>af (aG .lss (e 5) d) fun f=>let Q1:=(aa (aa (aa (aa e 6 (e 5)) 7 (e 0)) 8 d) 9 f);az f (af (dH 1 (e 0) (e 5)) fun g=>af (ag none g h) fun i=>af (dH 1 (e 1) (e 5)) fun j=>af (ag none j h) fun k=>af (oA (.int .i64) i k) fun l=>let Q2:=(aa (aa (aa (aa (aa (aa (aa (aa (aa Q1 12 (e 0)) 13 (e 5)) 14 g) 15 i) 16 (e 1)) 17 (e 5)) 18 j) 19 k) 20 l);az l (af (dH 1 (e 0) (e 5)) fun m=>af (ag none m h) fun n=>af (dH 1 (e 1) (e 5)) fun o=>af (ag none o h) fun a=>af (aG .lss n a) fun b=>J .ret ⟨(aa (aa (aa (aa (aa (aa (aa (aa (aa (aa Q2 21 (e 0)) 22 (e 5)) 23 m) 24 n) 25 (e 1)) 26 (e 5)) 27 o) 28 a) 29 b) 4 b),30,[],h⟩) (af (aG .add (e 5) (.int .i64 1)) fun c=>J .normal ⟨(aa (aa (aa Q2 10 (e 5)) 11 c) 5 c),30,[],h⟩)) (J (.exit 0) ⟨Q1,30,[],h⟩)):=by kernel_rfl
theorem F.fG.aF:F.fG.cQ K (.exit 0) ⟨e,30,[],h⟩=(K (.ret (.bool false)) h):=by kernel_rfl
theorem F.fG.bB:F.fG.cQ K .ret ⟨e,30,[],h⟩=(K (.ret (e 4)) h):=by kernel_rfl
theorem F.ET:EV (ai Tryz.f156) ⟨aD [a0,a1],30,[],h⟩ (RL Tryz.f156 K)=(bY (EV F.fG.L0) ⟨(aa (aa (aD [a0,a1]) 4 (.bool false)) 5 (.int .i64 0)),30,[],h⟩ (F.fG.cQ K)):=by kernel_rfl
theorem F.C7(hh:EV (ai Tryz.f156) ⟨aD [a0,a1],30,[],h⟩ (RL Tryz.f156 K)=true):Sem TP 156 [a0,a1] h K:=
 SB Tryz.func156 rfl (by decide) (by kernel_rfl) hh
noncomputable def F.dY.L0:=partOf (ai Tryz.f108) [1,1,0,1,0,0]
noncomputable def F.dY.cQ(K:Out->Heap->Bool):=(bf 0 (cV false (EV (partOf (ai Tryz.f108) [1,1,1])) (RL Tryz.f108 K)))
theorem F.dY.aT:EV F.dY.L0 ⟨e,19,[],h⟩ J=(af (aG .lss (e 9) (e 8)) fun b=>az b (af (aG .mul (e 7) (e 0)) fun a=>af (aG .gtr a (e 2)) fun c=>let Q1:=(aa (aa (aa (aa (aa (aa (aa (aa e 10 b) 11 (e 7)) 12 (e 0)) 13 a) 7 a) 14 a) 15 (e 2)) 16 c);az c (J .ret ⟨(aa Q1 6 (.int .i64 (-1))),19,[],h⟩) (af (aG .add (e 9) (.int .i64 1)) fun d=>J .normal ⟨(aa (aa Q1 17 d) 9 d),19,[],h⟩)) (J (.exit 0) ⟨(aa e 10 b),19,[],h⟩)):=by kernel_rfl
theorem F.dY.aF:F.dY.cQ K (.exit 0) ⟨e,19,[],h⟩=(K (.ret (e 7)) h):=by kernel_rfl
theorem F.dY.bB:F.dY.cQ K .ret ⟨e,19,[],h⟩=(K (.ret (e 6)) h):=by kernel_rfl
theorem F.C8:EV (ai Tryz.f108) ⟨aD [a0,a1,a2],19,[],h⟩ (RL Tryz.f108 K)=(bY (EV F.dY.L0) ⟨(aa (aa (aa (aa (aD [a0,a1,a2]) 6 (.int .i64 0)) 7 (.int .i64 1)) 8 a1) 9 (.int .i64 0)),19,[],h⟩ (F.dY.cQ K)):=by kernel_rfl
theorem F.Bl(hh:EV (ai Tryz.f108) ⟨aD [a0,a1,a2],19,[],h⟩ (RL Tryz.f108 K)=true):Sem TP 108 [a0,a1,a2] h K:=
 SB Tryz.func108 rfl (by decide) (by kernel_rfl) hh
noncomputable def F.cZ.L0:=partOf (ai Tryz.f109) [1,0,1,0,0]
noncomputable def F.cZ.cQ(K:Out->Heap->Bool):=(bf 0 (cV false (EV (partOf (ai Tryz.f109) [1,1])) (RL Tryz.f109 K)))
theorem F.cZ.aT:EV F.cZ.L0 ⟨e,42,[],h⟩ J=(af (aG .lss (e 10) (e 9)) fun w=>let Q1:=(aa e 11 w);az w (af (dH 1 (e 8) (e 10)) fun x=>af (ag none x h) fun b=>af (bW .slice b h) fun y=>af (bT 1 (e 3)) fun z=>af (ag none z h) fun A=>af (oA (.int .i64) y A) fun f=>let Q2:=(aa (aa (aa (aa (aa (aa (aa (aa (aa (aa (aa Q1 12 (e 10)) 13 x) 14 b) 5 (e 10)) 6 b) 15 b) 16 y) 17 z) 18 A) 19 f) 20 f);az f (J .ret ⟨(aa (aa (aa (aa (aa (aa (aa (aa (aa (aa (aa (aa (aa (aa (aa (aa (aa (aa (aa (aa (aa (aa (aa (aa (aa (aa (aa (aa (aa Q2 20 (.bool true)) 21 bI) 20 (.bool true)) 22 bI) 20 (.bool true)) 23 bI) 20 (.bool true)) 24 bI) 25 (.bool true)) 26 (.bool true)) 26 (.bool true)) 27 bI) 26 (.bool true)) 28 bI) 26 (.bool true)) 29 bI) 30 bI) 31 bI) 32 bI) 33 bI) 34 bI) 35 bI) 36 bI) 37 bI) 38 bI) 26 (.bool true)) 39 bI) 40 (.bool true)) 4 (.bool false)),42,[],h⟩) (aB TP 52 [(e 0),b] h (bJ (fun n a=>af (kF .not n) fun c=>let Q3:=(aa (aa (aa (aa (aa (aa (aa (aa (aa (aa Q2 20 (.bool false)) 21 (e 0)) 20 (.bool false)) 22 b) 20 (.bool false)) 23 n) 20 (.bool false)) 24 c) 25 c) 26 c);az c (J .ret ⟨(aa (aa (aa (aa (aa (aa (aa (aa (aa (aa (aa (aa (aa (aa (aa (aa (aa (aa (aa Q3 26 (.bool true)) 27 bI) 26 (.bool true)) 28 bI) 26 (.bool true)) 29 bI) 30 bI) 31 bI) 32 bI) 33 bI) 34 bI) 35 bI) 36 bI) 37 bI) 38 bI) 26 (.bool true)) 39 bI) 40 (.bool true)) 4 (.bool false)),42,[],a⟩) (af (aG .gtr (e 10) (.int .i64 0)) fun g=>let Q4:=(aa (aa (aa (aa (aa (aa Q3 26 (.bool false)) 27 (e 10)) 26 (.bool false)) 28 g) 26 (.bool false)) 29 g);az g (af (bT 2 (e 3)) fun i=>af (ag none i a) fun j=>af (aG .sub (e 10) (.int .i64 1)) fun k=>af (dH 1 j k) fun l=>af (ag none l a) fun m=>aB TP 55 [m,b] a (bJ (fun o p=>af (aG .geq o (.int .i64 0)) fun d=>let Q5:=(aa (aa (aa (aa (aa (aa (aa (aa (aa (aa (aa (aa (aa (aa (aa (aa (aa (aa (aa (aa (aa Q4 29 (.bool true)) 30 i) 29 (.bool true)) 31 j) 29 (.bool true)) 32 (e 10)) 29 (.bool true)) 33 k) 29 (.bool true)) 34 l) 29 (.bool true)) 35 m) 29 (.bool true)) 36 b) 29 (.bool true)) 37 o) 29 (.bool true)) 38 d) 26 (.bool false)) 39 d) 40 d);az d (J .ret ⟨(aa Q5 4 (.bool false)),42,[],p⟩) (af (aG .add (e 10) (.int .i64 1)) fun q=>J .normal ⟨(aa (aa Q5 41 q) 10 q),42,[],p⟩)) (fun s t=>J (.panic s) ⟨(aa (aa (aa (aa (aa (aa (aa (aa (aa (aa (aa (aa (aa (aa (aa Q4 29 (.bool true)) 30 i) 29 (.bool true)) 31 j) 29 (.bool true)) 32 (e 10)) 29 (.bool true)) 33 k) 29 (.bool true)) 34 l) 29 (.bool true)) 35 m) 29 (.bool true)) 36 b) 29 (.bool true)),42,[],t⟩))) (af (aG .add (e 10) (.int .i64 1)) fun r=>J .normal ⟨(aa (aa (aa (aa (aa (aa (aa (aa (aa (aa (aa (aa (aa (aa (aa (aa (aa (aa (aa (aa (aa (aa (aa Q4 29 (.bool false)) 30 bI) 29 (.bool false)) 31 bI) 29 (.bool false)) 32 bI) 29 (.bool false)) 33 bI) 29 (.bool false)) 34 bI) 29 (.bool false)) 35 bI) 29 (.bool false)) 36 bI) 29 (.bool false)) 37 bI) 29 (.bool false)) 38 bI) 26 (.bool false)) 39 (.bool false)) 40 (.bool false)) 41 r) 10 r),42,[],a⟩))) (fun u v=>J (.panic u) ⟨(aa (aa (aa (aa (aa Q2 20 (.bool false)) 21 (e 0)) 20 (.bool false)) 22 b) 20 (.bool false)),42,[],v⟩)))) (J (.exit 0) ⟨Q1,42,[],h⟩)):=by kernel_rfl
theorem F.cZ.aF:F.cZ.cQ K (.exit 0) ⟨e,42,[],h⟩=(K (.ret (.bool true)) h):=by kernel_rfl
theorem F.cZ.bB:F.cZ.cQ K .ret ⟨e,42,[],h⟩=(K (.ret (e 4)) h):=by kernel_rfl
theorem F.Bn:EV (ai Tryz.f109) ⟨aD [a0,a1],42,[],h⟩ (RL Tryz.f109 K)=(af (eZ a1) fun a=>af (bT 2 (.ptr (Heap.next h) 0)) fun b=>af (ag none b (Heap.alloc h (.cells a))) fun c=>af (bW .slice c (Heap.alloc h (.cells a))) fun d=>bY (EV F.cZ.L0) ⟨(aa (aa (aa (aa (aa (aa (aD [a0,a1]) 3 (.ptr (Heap.next h) 0)) 4 (.bool false)) 7 b) 8 c) 9 d) 10 (.int .i64 0)),42,[],(Heap.alloc h (.cells a))⟩ (F.cZ.cQ K)):=by kernel_rfl
theorem F.zG(hh:EV (ai Tryz.f109) ⟨aD [a0,a1],42,[],h⟩ (RL Tryz.f109 K)=true):Sem TP 109 [a0,a1] h K:=
 SB Tryz.func109 rfl (by decide) (by kernel_rfl) hh
theorem F.jB:EV (ai Tryz.f110) ⟨aD [a0,a1],9,[],h⟩ (RL Tryz.f110 K)=(aB TP 76 [a0,a1] h (bJ (fun a b=>af (aG .geq a (.int .i64 0)) fun c=>K (.ret c) b) (fun d f=>K (.panic d) f))):=by kernel_rfl
theorem F.jt(hh:EV (ai Tryz.f110) ⟨aD [a0,a1],9,[],h⟩ (RL Tryz.f110 K)=true):Sem TP 110 [a0,a1] h K:=
 SB Tryz.func110 rfl (by decide) (by kernel_rfl) hh
theorem F.zH:EV (ai Tryz.f111) ⟨aD [a0,a1],9,[],h⟩ (RL Tryz.f111 K)=(af (eZ a0) fun a=>af (bT 0 (.ptr (Heap.next h) 0)) fun b=>af (ag none b (Heap.alloc h (.cells a))) fun c=>af (bT 0 a1) fun d=>af (ag none d (Heap.alloc h (.cells a))) fun f=>af (jK .string c f) fun g=>K (.ret g) (Heap.alloc h (.cells a))):=by kernel_rfl
theorem F.yC(hh:EV (ai Tryz.f111) ⟨aD [a0,a1],9,[],h⟩ (RL Tryz.f111 K)=true):Sem TP 111 [a0,a1] h K:=
 SB Tryz.func111 rfl (by decide) (by kernel_rfl) hh
noncomputable def F.bt.L0:=partOf (ai Tryz.f76) [1,0,1,0,0]
noncomputable def F.bt.cQ(K:Out->Heap->Bool):=(bf 0 (cV false (EV (partOf (ai Tryz.f76) [1,1])) (RL Tryz.f76 K)))
theorem F.bt.aT:EV F.bt.L0 ⟨e,19,[],h⟩ J=(af (aG .lss (e 8) (e 7)) fun c=>let Q1:=(aa e 9 c);az c (af (dH 3 (e 0) (e 8)) fun a=>af (ag (some 3) a h) fun b=>pO (e 1) fun f9 RE Sv=>aB TP f9 (RE++([b]++Sv)) h (bJ (fun d f=>let Q2:=(aa (aa (aa (aa (aa (aa (aa (aa Q1 10 (e 8)) 5 (e 8)) 11 (e 1)) 12 (e 0)) 13 (e 8)) 14 a) 15 b) 16 d);az d (J .ret ⟨(aa (aa Q2 17 (e 8)) 4 (e 8)),19,[],f⟩) (af (aG .add (e 8) (.int .i64 1)) fun g=>J .normal ⟨(aa (aa Q2 18 g) 8 g),19,[],f⟩)) (fun i j=>J (.panic i) ⟨(aa (aa (aa (aa (aa (aa (aa Q1 10 (e 8)) 5 (e 8)) 11 (e 1)) 12 (e 0)) 13 (e 8)) 14 a) 15 b),19,[],j⟩))) (J (.exit 0) ⟨Q1,19,[],h⟩)):=by kernel_rfl
theorem F.bt.aF:F.bt.cQ K (.exit 0) ⟨e,19,[],h⟩=(K (.ret (.int .i64 (-1))) h):=by kernel_rfl
theorem F.bt.bB:F.bt.cQ K .ret ⟨e,19,[],h⟩=(K (.ret (e 4)) h):=by kernel_rfl
theorem F.kj:EV (ai Tryz.f76) ⟨aD [a0,a1],19,[],h⟩ (RL Tryz.f76 K)=(af (bW .slice a0 h) fun a=>bY (EV F.bt.L0) ⟨(aa (aa (aa (aa (aD [a0,a1]) 4 (.int .i64 0)) 6 a0) 7 a) 8 (.int .i64 0)),19,[],h⟩ (F.bt.cQ K)):=by kernel_rfl
theorem F.jW(hh:EV (ai Tryz.f76) ⟨aD [a0,a1],19,[],h⟩ (RL Tryz.f76 K)=true):Sem TP 76 [a0,a1] h K:=
 SB Tryz.func76 rfl (by decide) (by kernel_rfl) hh
theorem F.Bo:EV (ai Tryz.f94) ⟨aD [a0,a1,a2],15,[],h⟩ (RL Tryz.f94 K)=(af (eZ a0) fun a=>af (bT 0 (.ptr (Heap.next h) 0)) fun b=>af (ag none b (Heap.alloc h (.cells a))) fun c=>af (ag none a1 (Heap.alloc h (.cells a))) fun d=>af (jK .string c d) fun f=>az f (af (bT 1 (.ptr (Heap.next h) 0)) fun g=>af (ag none g (Heap.alloc h (.cells a))) fun i=>af (ag none a2 (Heap.alloc h (.cells a))) fun j=>af (jK (.int .i64) i j) fun k=>K (.ret k) (Heap.alloc h (.cells a))) (K (.ret (.bool false)) (Heap.alloc h (.cells a)))):=by kernel_rfl
theorem F.zI(hh:EV (ai Tryz.f94) ⟨aD [a0,a1,a2],15,[],h⟩ (RL Tryz.f94 K)=true):Sem TP 94 [a0,a1,a2] h K:=
 SB Tryz.func94 rfl (by decide) (by kernel_rfl) hh
theorem F.wZ:EV (ai Tryz.f95) ⟨aD [a0,a1],20,[],h⟩ (RL Tryz.f95 K)=(aB TP 136 [a0] h (bJ (fun c d=>aB TP 136 [a1] d (bJ (fun b a=>az c (az b (K (.ret (.int .i64 0)) a) (K (.ret (.int .i64 (-1))) a)) (az b (K (.ret (.int .i64 1)) a) (af (aG .lss a0 a1) fun f=>az f (K (.ret (.int .i64 (-1))) a) (af (aG .gtr a0 a1) fun g=>az g (K (.ret (.int .i64 1)) a) (K (.ret (.int .i64 0)) a))))) (fun i j=>K (.panic i) j))) (fun k l=>K (.panic k) l))):=by kernel_rfl
theorem F.vH(hh:EV (ai Tryz.f95) ⟨aD [a0,a1],20,[],h⟩ (RL Tryz.f95 K)=true):Sem TP 95 [a0,a1] h K:=
 SB Tryz.func95 rfl (by decide) (by kernel_rfl) hh
theorem F.vI:EV (ai Tryz.f93) ⟨aD [a0,a1],11,[],h⟩ (RL Tryz.f93 K)=(af (aG .lss a0 (.int .i64 0)) fun a=>az a (K (.ret (.bool true)) h) (af (ag none a1 h) fun b=>af (aG .geq a0 b) fun c=>K (.ret c) h)):=by kernel_rfl
theorem F.tJ(hh:EV (ai Tryz.f93) ⟨aD [a0,a1],11,[],h⟩ (RL Tryz.f93 K)=true):Sem TP 93 [a0,a1] h K:=
 SB Tryz.func93 rfl (by decide) (by kernel_rfl) hh
theorem F.zJ:EV (ai Tryz.f136) ⟨aD [a0],6,[],h⟩ (RL Tryz.f136 K)=(af (oA (.int .i64) a0 a0) fun a=>K (.ret a) h):=by kernel_rfl
theorem F.yD(hh:EV (ai Tryz.f136) ⟨aD [a0],6,[],h⟩ (RL Tryz.f136 K)=true):Sem TP 136 [a0] h K:=
 SB Tryz.func136 rfl (by decide) (by kernel_rfl) hh
noncomputable def F.gW.L0:=partOf (ai Tryz.f125) [1,0,1,0,0]
noncomputable def F.gW.cQ(K:Out->Heap->Bool):=(bf 0 (cV false (EV (partOf (ai Tryz.f125) [1,1])) (RL Tryz.f125 K)))
theorem F.gW.aT:EV F.gW.L0 ⟨e,25,[],h⟩ J=(af (bW .slice (e 1) h) fun c=>af (aG .lss (e 5) c) fun d=>let Q1:=(aa (aa (aa (aa e 6 (e 5)) 7 (e 1)) 8 c) 9 d);az d (af (dH 1 (e 1) (e 5)) fun f=>af (ag none f h) fun g=>af (aG .lss g (.int .i64 0)) fun a=>let Q2:=(aa (aa (aa (aa (aa (aa Q1 12 (e 1)) 13 (e 5)) 14 f) 15 g) 16 a) 17 a);az a (J .ret ⟨(aa (aa (aa (aa (aa (aa (aa (aa (aa (aa (aa (aa (aa (aa Q2 17 (.bool true)) 18 bI) 17 (.bool true)) 19 bI) 17 (.bool true)) 20 bI) 17 (.bool true)) 21 bI) 17 (.bool true)) 22 bI) 17 (.bool true)) 23 bI) 24 (.bool true)) 4 (.bool false)),25,[],h⟩) (af (dH 1 (e 1) (e 5)) fun i=>af (ag none i h) fun j=>af (aG .geq j (e 0)) fun b=>let Q3:=(aa (aa (aa (aa (aa (aa (aa (aa (aa (aa (aa (aa (aa Q2 17 (.bool false)) 18 (e 1)) 17 (.bool false)) 19 (e 5)) 17 (.bool false)) 20 i) 17 (.bool false)) 21 j) 17 (.bool false)) 22 (e 0)) 17 (.bool false)) 23 b) 24 b);az b (J .ret ⟨(aa Q3 4 (.bool false)),25,[],h⟩) (af (aG .add (e 5) (.int .i64 1)) fun k=>J .normal ⟨(aa (aa (aa Q3 10 (e 5)) 11 k) 5 k),25,[],h⟩))) (J (.exit 0) ⟨Q1,25,[],h⟩)):=by kernel_rfl
theorem F.gW.aF:F.gW.cQ K (.exit 0) ⟨e,25,[],h⟩=(K (.ret (.bool true)) h):=by kernel_rfl
theorem F.gW.bB:F.gW.cQ K .ret ⟨e,25,[],h⟩=(K (.ret (e 4)) h):=by kernel_rfl
theorem F.IX:EV (ai Tryz.f125) ⟨aD [a0,a1],25,[],h⟩ (RL Tryz.f125 K)=(bY (EV F.gW.L0) ⟨(aa (aa (aD [a0,a1]) 4 (.bool false)) 5 (.int .i64 0)),25,[],h⟩ (F.gW.cQ K)):=by kernel_rfl
theorem F.Hj(hh:EV (ai Tryz.f125) ⟨aD [a0,a1],25,[],h⟩ (RL Tryz.f125 K)=true):Sem TP 125 [a0,a1] h K:=
 SB Tryz.func125 rfl (by decide) (by kernel_rfl) hh
noncomputable def F.bQ.L0:=partOf (ai Tryz.f91) [1,0,1,0,0]
noncomputable def F.bQ.cQ(K:Out->Heap->Bool):=(bf 0 (cV false (EV (partOf (ai Tryz.f91) [1,1])) (RL Tryz.f91 K)))
theorem F.bQ.aT:EV F.bQ.L0 ⟨e,19,[],h⟩ J=(af (aG .lss (e 8) (e 7)) fun c=>let Q1:=(aa e 9 c);az c (af (dH 1 (e 0) (e 8)) fun a=>af (ag none a h) fun b=>pO (e 1) fun f9 RE Sv=>aB TP f9 (RE++([b]++Sv)) h (bJ (fun d f=>let Q2:=(aa (aa (aa (aa (aa (aa (aa (aa Q1 10 (e 8)) 5 (e 8)) 11 (e 1)) 12 (e 0)) 13 (e 8)) 14 a) 15 b) 16 d);az d (J .ret ⟨(aa (aa Q2 17 (e 8)) 4 (e 8)),19,[],f⟩) (af (aG .add (e 8) (.int .i64 1)) fun g=>J .normal ⟨(aa (aa Q2 18 g) 8 g),19,[],f⟩)) (fun i j=>J (.panic i) ⟨(aa (aa (aa (aa (aa (aa (aa Q1 10 (e 8)) 5 (e 8)) 11 (e 1)) 12 (e 0)) 13 (e 8)) 14 a) 15 b),19,[],j⟩))) (J (.exit 0) ⟨Q1,19,[],h⟩)):=by kernel_rfl
theorem F.bQ.aF:F.bQ.cQ K (.exit 0) ⟨e,19,[],h⟩=(K (.ret (.int .i64 (-1))) h):=by kernel_rfl
theorem F.bQ.bB:F.bQ.cQ K .ret ⟨e,19,[],h⟩=(K (.ret (e 4)) h):=by kernel_rfl
theorem F.nr:EV (ai Tryz.f91) ⟨aD [a0,a1],19,[],h⟩ (RL Tryz.f91 K)=(af (bW .slice a0 h) fun a=>bY (EV F.bQ.L0) ⟨(aa (aa (aa (aa (aD [a0,a1]) 4 (.int .i64 0)) 6 a0) 7 a) 8 (.int .i64 0)),19,[],h⟩ (F.bQ.cQ K)):=by kernel_rfl
theorem F.mT(hh:EV (ai Tryz.f91) ⟨aD [a0,a1],19,[],h⟩ (RL Tryz.f91 K)=true):Sem TP 91 [a0,a1] h K:=
 SB Tryz.func91 rfl (by decide) (by kernel_rfl) hh
theorem F.mh:EV (ai Tryz.f47) ⟨aD [a0,a1],9,[],h⟩ (RL Tryz.f47 K)=(aB TP 91 [a0,a1] h (bJ (fun a b=>af (aG .geq a (.int .i64 0)) fun c=>K (.ret c) b) (fun d f=>K (.panic d) f))):=by kernel_rfl
theorem F.lR(hh:EV (ai Tryz.f47) ⟨aD [a0,a1],9,[],h⟩ (RL Tryz.f47 K)=true):Sem TP 47 [a0,a1] h K:=
 SB Tryz.func47 rfl (by decide) (by kernel_rfl) hh
noncomputable def F.gJ.L0:=partOf (ai Tryz.f25) [1,1,0,1,0,0]
noncomputable def F.gJ.cQ(K:Out->Heap->Bool):=(bf 0 (cV false (EV (partOf (ai Tryz.f25) [1,1,1])) (RL Tryz.f25 K)))
theorem F.gJ.aT:EV F.gJ.L0 ⟨e,41,[],h⟩ J=(af (bT 1 (e 1)) fun L=>af (ag none L h) fun M=>af (bW .slice M h) fun N=>af (aG .lss (e 4) N) fun O=>let Q1:=(aa (aa (aa (aa (aa e 8 (e 4)) 9 L) 10 M) 11 N) 12 O);az O (af (bT 1 (e 3)) fun y=>af (ag none y h) fun b=>af (bT 1 (e 1)) fun c=>af (ag none c h) fun d=>af (dH 3 d (e 4)) fun m=>af (bT 0 m) fun f=>af (ag none f h) fun g=>af (bT 1 (e 1)) fun i=>af (ag none i h) fun j=>af (dH 3 j (e 4)) fun n=>af (bT 1 n) fun k=>af (ag none k h) fun l=>af (bT 1 (e 1)) fun o=>af (ag none o h) fun p=>af (dH 3 p (e 4)) fun q=>af (bT 2 q) fun r=>af (ag none r h) fun s=>aB TP 72 [s] h (bJ (fun t a=>if ((af (ag none k a) fun z=>AV.beq z l)&&((af (ag none i a) fun A=>AV.beq A j)&&((af (ag none f a) fun B=>AV.beq B g)&&((af (ag none c a) fun C=>AV.beq C d)&&((af (ag none y a) fun D=>AV.beq D b)&&true)))))=true then (af (iw [(.str []),(.int .i64 0),.ax] [(0,1),(1,1),(2,1)] [g,l,t]) fun u=>af (gd [(.str []),(.int .i64 0),.ax] [(0,3)] [u]) fun E=>cY (b7 3 48 b (.slice (Heap.next a) 0 1 3) (Heap.alloc a (.cells E))) fun v G=>af (bT 1 (e 3)) fun w=>af (aS 1 w v G) fun I=>af (aG .add (e 4) (.int .i64 1)) fun x=>J .normal ⟨(aa (aa (aa (aa (aa (aa (aa (aa (aa (aa (aa (aa (aa (aa (aa (aa (aa (aa (aa (aa (aa (aa (aa (aa (aa (aa (aa (aa Q1 15 y) 16 b) 17 c) 18 d) 19 (e 4)) 20 m) 21 f) 22 g) 23 i) 24 j) 25 (e 4)) 26 n) 27 k) 28 l) 29 o) 30 p) 31 (e 4)) 32 q) 33 r) 34 s) 35 t) 36 u) 37 (.slice (Heap.next a) 0 1 3)) 38 v) 39 w) 13 (e 4)) 14 x) 4 x),41,[],I⟩) else false) (fun _ _=>false))) (J (.exit 0) ⟨Q1,41,[],h⟩)):=by kernel_rfl
theorem F.gJ.aF:F.gJ.cQ K (.exit 0) ⟨e,41,[],h⟩=(af (ag (some 2) (e 3) h) fun a=>af (aS 2 (e 2) a h) fun b=>af (dh TP ⟨(aa e 40 a),41,[],b⟩ Tryz.f25.results.toList) fun c=>K (.ret (oneOf c)) b):=by kernel_rfl
theorem F.EU:EV (ai Tryz.f25) ⟨aD [a0],41,[],h⟩ (RL Tryz.f25 K)=(af (eZ a0) fun a=>af (bT 0 (.ptr (Heap.next h) 0)) fun b=>af (ag none b (Heap.alloc (Heap.alloc h (.cells a)) (.cells [(.int .i64 0),.ax]))) fun c=>af (iw [(.int .i64 0),.ax] [(0,1)] [c]) fun d=>af (aS 2 (.ptr (Heap.next (Heap.alloc (Heap.alloc h (.cells a)) (.cells [(.int .i64 0),.ax]))) 0) d (Heap.alloc (Heap.alloc (Heap.alloc h (.cells a)) (.cells [(.int .i64 0),.ax])) (.cells [(.int .i64 0),.ax]))) fun f=>bY (EV F.gJ.L0) ⟨(aa (aa (aa (aa (aa (aa (aa (aD [a0]) 1 (.ptr (Heap.next h) 0)) 2 (.ptr (Heap.next (Heap.alloc h (.cells a))) 0)) 5 b) 6 c) 7 d) 3 (.ptr (Heap.next (Heap.alloc (Heap.alloc h (.cells a)) (.cells [(.int .i64 0),.ax]))) 0)) 4 (.int .i64 0)),41,[],f⟩ (F.gJ.cQ K)):=by kernel_rfl
theorem F.C9(hh:EV (ai Tryz.f25) ⟨aD [a0],41,[],h⟩ (RL Tryz.f25 K)=true):Sem TP 25 [a0] h K:=
 SB Tryz.func25 rfl (by decide) (by kernel_rfl) hh
noncomputable def F.fB.L0:=partOf (ai Tryz.f72) [1,1,0,1,0,0]
noncomputable def F.fB.cQ(K:Out->Heap->Bool):=(bf 0 (cV false (EV (partOf (ai Tryz.f72) [1,1,1])) (RL Tryz.f72 K)))
theorem F.fB.aT:EV F.fB.L0 ⟨e,21,[],h⟩ J=(af (bW .slice (e 0) h) fun c=>af (aG .lss (e 4) c) fun d=>let Q1:=(aa (aa (aa (aa e 5 (e 4)) 6 (e 0)) 7 c) 8 d);az d (af (gd [] [] []) fun f=>af (dH 1 (e 0) (e 4)) fun g=>af (ag none g (Heap.alloc h (.cells f))) fun i=>cY (b7 1 8 (.slice (Heap.next h) 0 0 1) i (Heap.alloc h (.cells f))) fun j b=>af (gd [.ax] [(0,1)] [j]) fun l=>cY (b7 1 24 (e 3) (.slice (Heap.next b) 0 1 1) (Heap.alloc b (.cells l))) fun k m=>af (aG .add (e 4) (.int .i64 1)) fun a=>J .normal ⟨(aa (aa (aa (aa (aa (aa (aa (aa (aa (aa (aa (aa (aa Q1 11 (e 3)) 12 (.slice (Heap.next h) 0 0 1)) 13 (e 0)) 14 (e 4)) 15 g) 16 i) 17 j) 18 (.slice (Heap.next b) 0 1 1)) 19 k) 3 k) 9 (e 4)) 10 a) 4 a),21,[],m⟩) (J (.exit 0) ⟨Q1,21,[],h⟩)):=by kernel_rfl
theorem F.fB.aF:F.fB.cQ K (.exit 0) ⟨e,21,[],h⟩=(K (.ret (e 3)) h):=by kernel_rfl
theorem F.Bp:EV (ai Tryz.f72) ⟨aD [a0],21,[],h⟩ (RL Tryz.f72 K)=(bY (EV F.fB.L0) ⟨(aa (aa (aa (aD [a0]) 2 .ax) 3 .ax) 4 (.int .i64 0)),21,[],h⟩ (F.fB.cQ K)):=by kernel_rfl
theorem F.zK(hh:EV (ai Tryz.f72) ⟨aD [a0],21,[],h⟩ (RL Tryz.f72 K)=true):Sem TP 72 [a0] h K:=
 SB Tryz.func72 rfl (by decide) (by kernel_rfl) hh
noncomputable def F.gu.L0:=partOf (ai Tryz.f63) [1,1,1,1,1,0,1,0,0]
noncomputable def F.gu.cQ(K:Out->Heap->Bool):=(bf 0 (cV false (EV (partOf (ai Tryz.f63) [1,1,1,1,1,1])) (RL Tryz.f63 K)))
theorem F.gu.aT:EV F.gu.L0 ⟨e,46,[],h⟩ J=(af (aG .geq (e 11) (.int .i64 0)) fun a=>let Q1:=(aa (aa e 32 (e 11)) 33 a);az a (af (aG .rem (e 2) (e 0)) fun b=>af (aG .quo (e 2) (e 0)) fun c=>af (dH 1 (e 10) (e 11)) fun d=>af (aS 1 d b h) fun g=>af (aG .sub (e 11) (.int .i64 1)) fun f=>J .normal ⟨(aa (aa (aa (aa (aa (aa (aa (aa (aa (aa (aa (aa (aa Q1 36 (e 10)) 37 (e 11)) 38 (e 2)) 39 (e 0)) 40 b) 41 (e 2)) 42 (e 0)) 43 c) 44 d) 2 c) 34 (e 11)) 35 f) 11 f),46,[],g⟩) (J (.exit 0) ⟨Q1,46,[],h⟩)):=by kernel_rfl
theorem F.gu.aF:F.gu.cQ K (.exit 0) ⟨e,46,[],h⟩=(K (.ret (.tuple [(e 10),(.int .i64 0)])) h):=by kernel_rfl
theorem F.Da:EV (ai Tryz.f63) ⟨aD [a0,a1,a2],46,[],h⟩ (RL Tryz.f63 K)=(aB TP 99 [a0,a1] h (bJ (fun c d=>af (br c 0) fun f=>af (br c 1) fun a=>af (oA (.int .i64) a (.int .i64 0)) fun k=>az k (K (.ret (.tuple [.ax,a])) d) (af (aG .lss a2 (.int .i64 0)) fun g=>az g (K (.ret (.tuple [.ax,(.int .i64 2)])) d) (af (aG .geq a2 f) fun i=>az i (K (.ret (.tuple [.ax,(.int .i64 2)])) d) (cY (gI 1 8 [(.int .i64 0)] a1 a1 d) fun l j=>af (aG .sub a1 (.int .i64 1)) fun b=>bY (EV F.gu.L0) ⟨(aa (aa (aa (aa (aa (aa (aa (aa (aa (aa (aa (aa (aa (aa (aa (aa (aa (aa (aa (aa (aa (aa (aa (aa (aa (aa (aa (aa (aD [a0,a1,a2]) 6 .ax) 7 (.int .i64 0)) 13 a0) 14 a1) 15 c) 12 c) 16 f) 17 a) 8 f) 9 a) 18 a) 19 k) 21 a2) 22 g) 23 g) 23 (.bool false)) 24 a2) 23 (.bool false)) 25 f) 23 (.bool false)) 26 i) 27 i) 28 a1) 29 l) 10 l) 30 a1) 31 b) 11 b),46,[],j⟩ (F.gu.cQ K))))) (fun m n=>K (.panic m) n))):=by kernel_rfl
theorem F.Bq(hh:EV (ai Tryz.f63) ⟨aD [a0,a1,a2],46,[],h⟩ (RL Tryz.f63 K)=true):Sem TP 63 [a0,a1,a2] h K:=
 SB Tryz.func63 rfl (by decide) (by kernel_rfl) hh
noncomputable def F.cF.L0:=partOf (ai Tryz.f46) [1,1,0,1,0,0]
noncomputable def F.cF.cQ(K:Out->Heap->Bool):=(bf 0 (cV false (EV (partOf (ai Tryz.f46) [1,1,1])) (RL Tryz.f46 K)))
noncomputable def F.cF.L1:=partOf (ai Tryz.f46) [1,1,0,1,0,0,1,1,0,0,1,1,0,1,0,0]
noncomputable def F.cF.kJ(J:AX->St->Bool):=(bf 2 (cV false (EV (partOf (ai Tryz.f46) [1,1,0,1,0,0,1,1,0,0,1,1,1])) (bf 1 (cV false (EV (partOf (ai Tryz.f46) [1,1,0,1,0,0,1,1,1])) J))))
theorem F.cF.aT:EV F.cF.L0 ⟨e,47,[],h⟩ J=(af (aG .lss (e 15) (e 14)) fun m=>az m (af (dH 3 (e 13) (e 15)) fun o=>af (ag (some 3) o h) fun c=>af (aS 3 (.ptr (Heap.next h) 0) c (Heap.alloc h (.cells [(.str []),(.int .i64 0),.ax]))) fun a=>af (bT 0 (.ptr (Heap.next h) 0)) fun d=>af (ag none d a) fun f=>af (bT 1 (.ptr (Heap.next h) 0)) fun g=>af (ag none g a) fun i=>af (iw [(.str []),(.int .i64 0),.ax] [(0,1),(1,1)] [f,i]) fun j=>af (aS 3 (.ptr (Heap.next a) 0) j (Heap.alloc a (.cells [(.str []),(.int .i64 0),.ax]))) fun b=>af (bT 2 (.ptr (Heap.next h) 0)) fun k=>af (ag none k b) fun l=>af (bW .slice l b) fun n=>bY (EV F.cF.L1) ⟨(aa (aa (aa (aa (aa (aa (aa (aa (aa (aa (aa (aa (aa (aa e 16 m) 17 o) 18 c) 5 (.ptr (Heap.next h) 0)) 19 d) 20 f) 21 g) 22 i) 23 j) 6 (.ptr (Heap.next a) 0)) 24 k) 25 l) 26 n) 27 (.int .i64 0)),47,[],b⟩ (F.cF.kJ J)) (J (.exit 0) ⟨(aa e 16 m),47,[],h⟩)):=by kernel_rfl
theorem F.cF.aF:F.cF.cQ K (.exit 0) ⟨e,47,[],h⟩=(af (ag (some 2) (e 3) h) fun a=>af (aS 2 (e 2) a h) fun b=>af (dh TP ⟨(aa e 46 a),47,[],b⟩ Tryz.f46.results.toList) fun c=>K (.ret (oneOf c)) b):=by kernel_rfl
theorem F.cF.dr:EV F.cF.L1 ⟨e,47,[],h⟩ J=(af (aG .lss (e 27) (e 26)) fun c=>az c (af (dH 1 (e 25) (e 27)) fun g=>af (ag none g h) fun a=>af (bT 2 (e 6)) fun d=>af (ag none d h) fun f=>aB TP 49 [a] h (bJ (fun i b=>if ((af (ag none d b) fun m=>AV.beq m f)&&true)=true then (af (gd [.ax] [(0,1)] [i]) fun n=>cY (b7 1 24 f (.slice (Heap.next b) 0 1 1) (Heap.alloc b (.cells n))) fun j o=>af (bT 2 (e 6)) fun k=>af (aS 1 k j o) fun p=>af (aG .add (e 27) (.int .i64 1)) fun l=>J .normal ⟨(aa (aa (aa (aa (aa (aa (aa (aa (aa (aa (aa (aa (aa e 28 c) 29 g) 30 a) 8 a) 31 d) 32 f) 33 a) 34 i) 35 (.slice (Heap.next b) 0 1 1)) 36 j) 37 k) 38 l) 27 l),47,[],p⟩) else false) (fun _ _=>false))) (J (.exit 2) ⟨(aa e 28 c),47,[],h⟩)):=by kernel_rfl
theorem F.cF.cz:F.cF.kJ J (.exit 2) ⟨e,47,[],h⟩=(af (bT 1 (e 3)) fun a=>af (ag none a h) fun b=>af (ag (some 3) (e 6) h) fun c=>af (gd [(.str []),(.int .i64 0),.ax] [(0,3)] [c]) fun i=>cY (b7 3 48 b (.slice (Heap.next h) 0 1 3) (Heap.alloc h (.cells i))) fun d j=>af (bT 1 (e 3)) fun f=>af (aS 1 f d j) fun k=>af (aG .add (e 15) (.int .i64 1)) fun g=>J .normal ⟨(aa (aa (aa (aa (aa (aa (aa (aa e 39 a) 40 b) 41 c) 42 (.slice (Heap.next h) 0 1 3)) 43 d) 44 f) 45 g) 15 g),47,[],k⟩):=by kernel_rfl
theorem F.wh:EV (ai Tryz.f46) ⟨aD [a0],47,[],h⟩ (RL Tryz.f46 K)=(af (eZ a0) fun a=>af (bT 0 (.ptr (Heap.next h) 0)) fun c=>af (ag none c (Heap.alloc (Heap.alloc h (.cells a)) (.cells [(.int .i64 0),.ax]))) fun d=>af (iw [(.int .i64 0),.ax] [(0,1)] [d]) fun f=>af (aS 2 (.ptr (Heap.next (Heap.alloc (Heap.alloc h (.cells a)) (.cells [(.int .i64 0),.ax]))) 0) f (Heap.alloc (Heap.alloc (Heap.alloc h (.cells a)) (.cells [(.int .i64 0),.ax])) (.cells [(.int .i64 0),.ax]))) fun b=>af (bT 1 (.ptr (Heap.next h) 0)) fun g=>af (ag none g b) fun i=>af (bW .slice i b) fun j=>bY (EV F.cF.L0) ⟨(aa (aa (aa (aa (aa (aa (aa (aa (aa (aa (aD [a0]) 1 (.ptr (Heap.next h) 0)) 2 (.ptr (Heap.next (Heap.alloc h (.cells a))) 0)) 9 c) 10 d) 11 f) 3 (.ptr (Heap.next (Heap.alloc (Heap.alloc h (.cells a)) (.cells [(.int .i64 0),.ax]))) 0)) 12 g) 13 i) 14 j) 15 (.int .i64 0)),47,[],b⟩ (F.cF.cQ K)):=by kernel_rfl
theorem F.tK(hh:EV (ai Tryz.f46) ⟨aD [a0],47,[],h⟩ (RL Tryz.f46 K)=true):Sem TP 46 [a0] h K:=
 SB Tryz.func46 rfl (by decide) (by kernel_rfl) hh
theorem F.kE:EV (ai Tryz.f49) ⟨aD [a0],8,[],h⟩ (RL Tryz.f49 K)=(af (jK (.slice 3) a0 .ax) fun a=>az a (K (.ret .ax) h) (af (gd [] [] []) fun b=>cY (b7 1 8 (.slice (Heap.next h) 0 0 1) a0 (Heap.alloc h (.cells b))) fun c d=>K (.ret c) d)):=by kernel_rfl
theorem F.jX(hh:EV (ai Tryz.f49) ⟨aD [a0],8,[],h⟩ (RL Tryz.f49 K)=true):Sem TP 49 [a0] h K:=
 SB Tryz.func49 rfl (by decide) (by kernel_rfl) hh
noncomputable def F.bG.L0:=partOf (ai Tryz.f23) [1,1,1,1,0,1,0,0]
noncomputable def F.bG.cQ(K:Out->Heap->Bool):=(bf 0 (cV false (EV (partOf (ai Tryz.f23) [1,1,1,1,1])) (RL Tryz.f23 K)))
noncomputable def F.bG.L1:=partOf (ai Tryz.f23) [1,1,1,1,1,0,1,0,0]
noncomputable def F.bG.kJ(K:Out->Heap->Bool):=(bf 2 (cV false (EV (partOf (ai Tryz.f23) [1,1,1,1,1,1])) (RL Tryz.f23 K)))
noncomputable def F.bG.L2:=partOf (ai Tryz.f23) [1,1,1,1,1,0,1,0,0,1,0,0,1,0,1,0,0]
noncomputable def F.bG.y8(J:AX->St->Bool):=(bf 4 (cV false (EV (partOf (ai Tryz.f23) [1,1,1,1,1,0,1,0,0,1,0,0,1,1])) (bf 3 (cV false (EV (partOf (ai Tryz.f23) [1,1,1,1,1,0,1,0,0,1,1])) J))))
theorem F.bG.aT:EV F.bG.L0 ⟨e,69,[],h⟩ J=(af (bW .slice (e 5) h) fun a=>af (aG .lss (e 6) a) fun b=>let Q1:=(aa (aa (aa (aa e 25 (e 6)) 26 (e 5)) 27 a) 28 b);az b (af (ag (some 2) (e 3) h) fun c=>af (dH 1 (e 5) (e 6)) fun d=>af (ag none d h) fun f=>aB TP 69 [c,f] h (bJ (fun g i=>af (aG .geq g (.int .i64 0)) fun j=>let Q2:=(aa (aa (aa (aa (aa (aa (aa Q1 31 c) 32 (e 5)) 33 (e 6)) 34 d) 35 f) 36 g) 37 j);az j (J .ret ⟨(aa Q2 4 (.int .i64 4)),69,[],i⟩) (af (aG .add (e 6) (.int .i64 1)) fun k=>J .normal ⟨(aa (aa (aa Q2 29 (e 6)) 30 k) 6 k),69,[],i⟩)) (fun _ _=>false))) (J (.exit 0) ⟨Q1,69,[],h⟩)):=by kernel_rfl
theorem F.bG.aF:F.bG.cQ K (.exit 0) ⟨e,69,[],h⟩=(bY (EV F.bG.L1) ⟨(aa e 7 (.int .i64 0)),69,[],h⟩ (F.bG.kJ K)):=by kernel_rfl
theorem F.bG.bB:F.bG.cQ K .ret ⟨e,69,[],h⟩=(K (.ret (e 4)) h):=by kernel_rfl
theorem F.bG.dr:EV F.bG.L1 ⟨e,69,[],h⟩ J=(af (bW .slice (e 0) h) fun a=>af (aG .lss (e 7) a) fun b=>let Q1:=(aa (aa (aa (aa e 38 (e 7)) 39 (e 0)) 40 a) 41 b);az b (bY (EV F.bG.L2) ⟨(aa (aa Q1 8 (.int .i64 1)) 9 (.int .i64 0)),69,[],h⟩ (F.bG.y8 J)) (J (.exit 2) ⟨Q1,69,[],h⟩)):=by kernel_rfl
theorem F.bG.cz:F.bG.kJ K (.exit 2) ⟨e,69,[],h⟩=(af (ag (some 2) (e 3) h) fun b=>aB TP 70 [(e 0),b] h (bJ (fun c d=>aB TP 66 [c] d (bJ (fun f a=>af (kF .not f) fun g=>az g (K (.ret (.int .i64 5)) a) (K (.ret (.int .i64 0)) a)) (fun i j=>K (.panic i) j))) (fun k l=>K (.panic k) l))):=by kernel_rfl
theorem F.bG.jG:F.bG.kJ K .ret ⟨e,69,[],h⟩=(K (.ret (e 4)) h):=by kernel_rfl
theorem F.bG.mG:EV F.bG.L2 ⟨e,69,[],h⟩ J=(af (dH 3 (e 0) (e 7)) fun b=>af (ag (some 3) b h) fun c=>aB TP 43 [c] h (bJ (fun g a=>af (bW .slice g a) fun i=>af (aG .lss (e 9) i) fun d=>let Q1:=(aa (aa (aa (aa (aa (aa (aa (aa (aa e 44 (e 9)) 45 (e 0)) 46 (e 7)) 47 b) 48 c) 49 g) 50 i) 51 d) 52 d);az d (af (aG .leq (e 8) (.int .i64 65536)) fun f=>let Q2:=(aa (aa (aa (aa (aa Q1 52 (.bool true)) 53 (e 8)) 52 (.bool true)) 54 f) 55 f);az f (af (bT 0 (e 3)) fun j=>af (ag none j a) fun k=>af (aG .mul (e 8) k) fun l=>af (aG .add (e 9) (.int .i64 1)) fun m=>J .normal ⟨(aa (aa (aa (aa (aa (aa (aa (aa Q2 58 (e 8)) 59 j) 60 k) 61 l) 8 l) 56 (e 9)) 57 m) 9 m),69,[],a⟩) (J (.exit 4) ⟨Q2,69,[],a⟩)) (J (.exit 4) ⟨(aa (aa (aa (aa (aa Q1 52 (.bool false)) 53 bI) 52 (.bool false)) 54 bI) 55 (.bool false)),69,[],a⟩)) (fun n o=>J (.panic n) ⟨(aa (aa (aa (aa (aa e 44 (e 9)) 45 (e 0)) 46 (e 7)) 47 b) 48 c),69,[],o⟩))):=by kernel_rfl
theorem F.bG.iZ:F.bG.y8 J (.exit 4) ⟨e,69,[],h⟩=(af (aG .gtr (e 8) (.int .i64 65536)) fun a=>az a (J .ret ⟨(aa (aa (aa e 62 (e 8)) 63 a) 4 (.int .i64 5)),69,[],h⟩) (af (aG .add (e 7) (.int .i64 1)) fun b=>J .normal ⟨(aa (aa (aa (aa (aa e 62 (e 8)) 63 a) 42 (e 7)) 43 b) 7 b),69,[],h⟩)):=by kernel_rfl
theorem F.Db:EV (ai Tryz.f23) ⟨aD [a0,a1],69,[],h⟩ (RL Tryz.f23 K)=(af (eZ a1) fun v=>aB TP 65 [a0] (Heap.alloc h (.cells v)) (bJ (fun r l=>af (kF .not r) fun m=>az m (K (.ret (.int .i64 1)) l) (af (ag (some 2) (.ptr (Heap.next h) 0) l) fun s=>aB TP 66 [s] l (bJ (fun t u=>af (kF .not t) fun a=>az a (K (.ret (.int .i64 1)) u) (aB TP 35 [a0] u (bJ (fun c d=>af (ag (some 2) (.ptr (Heap.next h) 0) d) fun b=>aB TP 68 [a0] d (bJ (fun f g=>if ((af (ag (some 2) (.ptr (Heap.next h) 0) g) fun n=>AV.beq n b)&&true)=true then (aB TP 67 [b,f] g (bJ (fun i j=>af (kF .not i) fun k=>az k (K (.ret (.int .i64 4)) j) (bY (EV F.bG.L0) ⟨(aa (aa (aa (aa (aa (aa (aa (aa (aa (aa (aa (aa (aa (aa (aa (aa (aa (aa (aa (aa (aa (aa (aD [a0,a1]) 3 (.ptr (Heap.next h) 0)) 4 (.int .i64 0)) 10 a0) 11 r) 12 m) 13 m) 13 (.bool false)) 14 s) 13 (.bool false)) 15 t) 13 (.bool false)) 16 a) 17 a) 18 a0) 19 c) 5 c) 20 b) 21 a0) 22 f) 23 i) 24 k) 6 (.int .i64 0)),69,[],j⟩ (F.bG.cQ K))) (fun _ _=>false))) else false) (fun _ _=>false))) (fun o p=>K (.panic o) p)))) (fun w q=>K (.panic w) q)))) (fun x y=>K (.panic x) y))):=by kernel_rfl
theorem F.Br(hh:EV (ai Tryz.f23) ⟨aD [a0,a1],69,[],h⟩ (RL Tryz.f23 K)=true):Sem TP 23 [a0,a1] h K:=
 SB Tryz.func23 rfl (by decide) (by kernel_rfl) hh
noncomputable def F.cx.L0:=partOf (ai Tryz.f68) [1,1,1,1,0,1,0,0]
noncomputable def F.cx.cQ(K:Out->Heap->Bool):=(bf 0 (cV false (EV (partOf (ai Tryz.f68) [1,1,1,1,1])) (RL Tryz.f68 K)))
noncomputable def F.cx.L1:=partOf (ai Tryz.f68) [1,1,1,1,1,1,0,1,0,0]
noncomputable def F.cx.kJ(K:Out->Heap->Bool):=(bf 2 (cV false (EV (partOf (ai Tryz.f68) [1,1,1,1,1,1,1])) (RL Tryz.f68 K)))
theorem F.cx.aT:EV F.cx.L0 ⟨e,55,[],h⟩ J=(af (bW .slice (e 5) h) fun t=>af (aG .lss (e 6) t) fun u=>let Q1:=(aa (aa (aa (aa e 13 (e 6)) 14 (e 5)) 15 t) 16 u);az u (af (dH 2 (e 5) (e 6)) fun a=>af (bT 0 a) fun b=>af (ag none b h) fun c=>aB TP 86 [(e 3),c] h (bJ (fun j d=>af (kF .not j) fun k=>let Q2:=(aa (aa (aa (aa (aa (aa (aa (aa Q1 19 (e 3)) 20 (e 5)) 21 (e 6)) 22 a) 23 b) 24 c) 25 j) 26 k);az k (af (dH 2 (e 5) (e 6)) fun f=>af (bT 0 f) fun g=>af (ag none g d) fun i=>aB TP 79 [(e 4),i] d (bJ (fun l o=>af (aG .add (e 6) (.int .i64 1)) fun m=>J .normal ⟨(aa (aa (aa (aa (aa (aa (aa (aa (aa (aa (aa Q2 27 (e 4)) 28 (e 5)) 29 (e 6)) 30 f) 31 g) 32 i) 33 l) 4 l) 17 (e 6)) 18 m) 6 m),55,[],o⟩) (fun p q=>J (.panic p) ⟨(aa (aa (aa (aa (aa (aa Q2 27 (e 4)) 28 (e 5)) 29 (e 6)) 30 f) 31 g) 32 i),55,[],q⟩))) (af (aG .add (e 6) (.int .i64 1)) fun n=>J .normal ⟨(aa (aa (aa Q2 17 (e 6)) 18 n) 6 n),55,[],d⟩)) (fun r s=>J (.panic r) ⟨(aa (aa (aa (aa (aa (aa Q1 19 (e 3)) 20 (e 5)) 21 (e 6)) 22 a) 23 b) 24 c),55,[],s⟩))) (J (.exit 0) ⟨Q1,55,[],h⟩)):=by kernel_rfl
theorem F.cx.aF:F.cx.cQ K (.exit 0) ⟨e,55,[],h⟩=(bY (EV F.cx.L1) ⟨(aa (aa e 7 .ax) 8 (.int .i64 0)),55,[],h⟩ (F.cx.kJ K)):=by kernel_rfl
theorem F.cx.dr:EV F.cx.L1 ⟨e,55,[],h⟩ J=(af (bW .slice (e 4) h) fun d=>af (aG .lss (e 8) d) fun f=>let Q1:=(aa (aa (aa (aa e 34 (e 8)) 35 (e 4)) 36 d) 37 f);az f (af (dH 1 (e 4) (e 8)) fun b=>af (ag none b h) fun c=>af (dH 1 (e 4) (e 8)) fun g=>af (ag none g h) fun i=>aB TP 116 [(e 0),i] h (bJ (fun j a=>if ((af (ag none b a) fun n=>AV.beq n c)&&true)=true then (af (iw [(.str []),(.int .i64 0)] [(0,1),(1,1)] [c,j]) fun k=>af (gd [(.str []),(.int .i64 0)] [(0,2)] [k]) fun o=>cY (b7 2 24 (e 7) (.slice (Heap.next a) 0 1 2) (Heap.alloc a (.cells o))) fun l p=>af (aG .add (e 8) (.int .i64 1)) fun m=>J .normal ⟨(aa (aa (aa (aa (aa (aa (aa (aa (aa (aa (aa (aa (aa (aa (aa (aa (aa (aa Q1 40 (e 7)) 41 (e 4)) 42 (e 8)) 43 b) 44 c) 45 (e 0)) 46 (e 4)) 47 (e 8)) 48 g) 49 i) 50 j) 51 k) 52 (.slice (Heap.next a) 0 1 2)) 53 l) 7 l) 38 (e 8)) 39 m) 8 m),55,[],p⟩) else false) (fun _ _=>false))) (J (.exit 2) ⟨Q1,55,[],h⟩)):=by kernel_rfl
theorem F.cx.cz:F.cx.kJ K (.exit 2) ⟨e,55,[],h⟩=(K (.ret (e 7)) h):=by kernel_rfl
theorem F.zL:EV (ai Tryz.f68) ⟨aD [a0],55,[],h⟩ (RL Tryz.f68 K)=(aB TP 35 [a0] h (bJ (fun a c=>aB TP 113 [a0] c (bJ (fun b d=>bY (EV F.cx.L0) ⟨(aa (aa (aa (aa (aa (aa (aa (aa (aa (aD [a0]) 2 .ax) 9 a0) 10 a) 3 a) 4 .ax) 11 a0) 12 b) 5 b) 6 (.int .i64 0)),55,[],d⟩ (F.cx.cQ K)) (fun f g=>K (.panic f) g))) (fun i j=>K (.panic i) j))):=by kernel_rfl
theorem F.yE(hh:EV (ai Tryz.f68) ⟨aD [a0],55,[],h⟩ (RL Tryz.f68 K)=true):Sem TP 68 [a0] h K:=
 SB Tryz.func68 rfl (by decide) (by kernel_rfl) hh
noncomputable def F.dZ.L0:=partOf (ai Tryz.f116) [1,1,0,1,0,0]
noncomputable def F.dZ.cQ(K:Out->Heap->Bool):=(bf 0 (cV false (EV (partOf (ai Tryz.f116) [1,1,1])) (RL Tryz.f116 K)))
theorem F.dZ.aT:EV F.dZ.L0 ⟨e,27,[],h⟩ J=(af (bW .slice (e 5) h) fun f=>af (aG .lss (e 6) f) fun g=>let Q1:=(aa (aa (aa (aa e 9 (e 6)) 10 (e 5)) 11 f) 12 g);az g (af (dH 2 (e 5) (e 6)) fun i=>af (bT 0 i) fun j=>af (ag none j h) fun k=>af (jK .string k (e 1)) fun l=>let Q2:=(aa (aa (aa (aa (aa (aa (aa Q1 15 (e 5)) 16 (e 6)) 17 i) 18 j) 19 k) 20 (e 1)) 21 l);az l (af (dH 2 (e 5) (e 6)) fun a=>af (bT 1 a) fun b=>af (ag none b h) fun c=>J .ret ⟨(aa (aa (aa (aa (aa (aa Q2 22 (e 5)) 23 (e 6)) 24 a) 25 b) 26 c) 4 c),27,[],h⟩) (af (aG .add (e 6) (.int .i64 1)) fun d=>J .normal ⟨(aa (aa (aa Q2 13 (e 6)) 14 d) 6 d),27,[],h⟩)) (J (.exit 0) ⟨Q1,27,[],h⟩)):=by kernel_rfl
theorem F.dZ.aF:F.dZ.cQ K (.exit 0) ⟨e,27,[],h⟩=(K (.ret (.int .i64 (-1))) h):=by kernel_rfl
theorem F.dZ.bB:F.dZ.cQ K .ret ⟨e,27,[],h⟩=(K (.ret (e 4)) h):=by kernel_rfl
theorem F.Dc:EV (ai Tryz.f116) ⟨aD [a0,a1],27,[],h⟩ (RL Tryz.f116 K)=(aB TP 113 [a0] h (bJ (fun a b=>bY (EV F.dZ.L0) ⟨(aa (aa (aa (aa (aa (aD [a0,a1]) 4 (.int .i64 0)) 7 a0) 8 a) 5 a) 6 (.int .i64 0)),27,[],b⟩ (F.dZ.cQ K)) (fun c d=>K (.panic c) d))):=by kernel_rfl
theorem F.Bt(hh:EV (ai Tryz.f116) ⟨aD [a0,a1],27,[],h⟩ (RL Tryz.f116 K)=true):Sem TP 116 [a0,a1] h K:=
 SB Tryz.func116 rfl (by decide) (by kernel_rfl) hh
noncomputable def F.fZ.L0:=partOf (ai Tryz.f70) [1,1,1,0,1,0,0]
noncomputable def F.fZ.cQ(K:Out->Heap->Bool):=(bf 0 (cV false (EV (partOf (ai Tryz.f70) [1,1,1,1])) (RL Tryz.f70 K)))
theorem F.fZ.aT:EV F.fZ.L0 ⟨e,35,[],h⟩ J=(af (bW .slice (e 6) h) fun g=>af (aG .lss (e 7) g) fun i=>let Q1:=(aa (aa (aa (aa e 12 (e 7)) 13 (e 6)) 14 g) 15 i);az i (af (bT 1 (e 5)) fun b=>af (ag none b h) fun c=>af (dH 1 (e 6) (e 7)) fun d=>af (ag none d h) fun f=>af (dH 1 (e 6) (e 7)) fun j=>af (ag none j h) fun k=>aB TP 116 [(e 0),k] h (bJ (fun l a=>if ((af (ag none d a) fun q=>AV.beq q f)&&((af (ag none b a) fun r=>AV.beq r c)&&true))=true then (af (iw [(.str []),(.int .i64 0),.ax] [(0,1),(1,1)] [f,l]) fun m=>af (gd [(.str []),(.int .i64 0),.ax] [(0,3)] [m]) fun s=>cY (b7 3 48 c (.slice (Heap.next a) 0 1 3) (Heap.alloc a (.cells s))) fun n t=>af (bT 1 (e 5)) fun o=>af (aS 1 o n t) fun u=>af (aG .add (e 7) (.int .i64 1)) fun p=>J .normal ⟨(aa (aa (aa (aa (aa (aa (aa (aa (aa (aa (aa (aa (aa (aa (aa (aa (aa (aa (aa Q1 18 b) 19 c) 20 (e 6)) 21 (e 7)) 22 d) 23 f) 24 (e 0)) 25 (e 6)) 26 (e 7)) 27 j) 28 k) 29 l) 30 m) 31 (.slice (Heap.next a) 0 1 3)) 32 n) 33 o) 16 (e 7)) 17 p) 7 p),35,[],u⟩) else false) (fun _ _=>false))) (J (.exit 0) ⟨Q1,35,[],h⟩)):=by kernel_rfl
theorem F.fZ.aF:F.fZ.cQ K (.exit 0) ⟨e,35,[],h⟩=(af (ag (some 2) (e 5) h) fun a=>af (aS 2 (e 4) a h) fun b=>af (dh TP ⟨(aa e 34 a),35,[],b⟩ Tryz.f70.results.toList) fun c=>K (.ret (oneOf c)) b):=by kernel_rfl
theorem F.Dd:EV (ai Tryz.f70) ⟨aD [a0,a1],35,[],h⟩ (RL Tryz.f70 K)=(af (eZ a1) fun a=>af (ag (some 2) (.ptr (Heap.next h) 0) (Heap.alloc (Heap.alloc h (.cells a)) (.cells [(.int .i64 0),.ax]))) fun d=>aB TP 25 [d] (Heap.alloc (Heap.alloc h (.cells a)) (.cells [(.int .i64 0),.ax])) (bJ (fun f b=>af (aS 2 (.ptr (Heap.next b) 0) f (Heap.alloc b (.cells [(.int .i64 0),.ax]))) fun i=>aB TP 35 [a0] i (bJ (fun g j=>bY (EV F.fZ.L0) ⟨(aa (aa (aa (aa (aa (aa (aa (aa (aa (aD [a0,a1]) 3 (.ptr (Heap.next h) 0)) 4 (.ptr (Heap.next (Heap.alloc h (.cells a))) 0)) 8 d) 9 f) 5 (.ptr (Heap.next b) 0)) 10 a0) 11 g) 6 g) 7 (.int .i64 0)),35,[],j⟩ (F.fZ.cQ K)) (fun k c=>K (.panic k) c))) (fun l m=>K (.panic l) m))):=by kernel_rfl
theorem F.Bu(hh:EV (ai Tryz.f70) ⟨aD [a0,a1],35,[],h⟩ (RL Tryz.f70 K)=true):Sem TP 70 [a0,a1] h K:=
 SB Tryz.func70 rfl (by decide) (by kernel_rfl) hh
noncomputable def F.iO.L0:=partOf (ai Tryz.f16) [1,1,0,1,0,0]
noncomputable def F.iO.cQ(K:Out->Heap->Bool):=(bf 0 (cV false (EV (partOf (ai Tryz.f16) [1,1,1])) (RL Tryz.f16 K)))
theorem F.iO.aT:EV F.iO.L0 ⟨e,59,[],h⟩ J=(af (bT 1 (e 2)) fun p=>af (ag none p h) fun q=>af (bW .slice q h) fun r=>af (aG .lss (e 5) r) fun s=>let Q1:=(aa (aa (aa (aa (aa e 22 (e 5)) 23 p) 24 q) 25 r) 26 s);az s (af (bT 1 (e 2)) fun t=>af (ag none t h) fun u=>af (dH 3 u (e 5)) fun v=>af (ag (some 3) v h) fun w=>af (bT 1 (e 3)) fun c=>af (ag none c h) fun d=>af (dH 3 d (e 5)) fun f=>af (ag (some 3) f h) fun g=>af (aS 3 (.ptr (Heap.next h) 0) w (Heap.alloc (Heap.alloc h (.cells [(.str []),(.int .i64 0),.ax])) (.cells [(.str []),(.int .i64 0),.ax]))) fun i=>if ((af (ag (some 3) f i) fun M=>AV.beq M g)&&((af (ag none c i) fun N=>AV.beq N d)&&true))=true then (af (aS 3 (.ptr (Heap.next (Heap.alloc h (.cells [(.str []),(.int .i64 0),.ax]))) 0) g i) fun a=>af (bT 0 (.ptr (Heap.next h) 0)) fun x=>af (ag none x a) fun y=>af (bT 0 (.ptr (Heap.next (Heap.alloc h (.cells [(.str []),(.int .i64 0),.ax]))) 0)) fun z=>af (ag none z a) fun A=>af (oA .string y A) fun j=>let Q2:=(aa (aa (aa (aa (aa (aa (aa (aa (aa (aa (aa (aa (aa (aa (aa (aa (aa (aa Q1 29 t) 30 u) 31 (e 5)) 32 v) 33 w) 34 c) 35 d) 36 (e 5)) 37 f) 38 g) 6 (.ptr (Heap.next h) 0)) 7 (.ptr (Heap.next (Heap.alloc h (.cells [(.str []),(.int .i64 0),.ax]))) 0)) 39 x) 40 y) 41 z) 42 A) 43 j) 44 j);az j (J .ret ⟨(aa (aa (aa (aa (aa (aa (aa (aa (aa (aa (aa (aa (aa (aa (aa (aa (aa (aa (aa (aa (aa (aa (aa (aa (aa (aa Q2 44 (.bool true)) 45 bI) 44 (.bool true)) 46 bI) 44 (.bool true)) 47 bI) 44 (.bool true)) 48 bI) 44 (.bool true)) 49 bI) 50 (.bool true)) 51 (.bool true)) 51 (.bool true)) 52 bI) 51 (.bool true)) 53 bI) 51 (.bool true)) 54 bI) 51 (.bool true)) 55 bI) 51 (.bool true)) 56 bI) 51 (.bool true)) 57 bI) 58 (.bool true)) 4 (.bool false)),59,[],a⟩) (af (bT 1 (.ptr (Heap.next h) 0)) fun B=>af (ag none B a) fun C=>af (bT 1 (.ptr (Heap.next (Heap.alloc h (.cells [(.str []),(.int .i64 0),.ax]))) 0)) fun D=>af (ag none D a) fun E=>af (oA (.int .i64) C E) fun b=>let Q3:=(aa (aa (aa (aa (aa (aa (aa (aa (aa (aa (aa (aa Q2 44 (.bool false)) 45 B) 44 (.bool false)) 46 C) 44 (.bool false)) 47 D) 44 (.bool false)) 48 E) 44 (.bool false)) 49 b) 50 b) 51 b);az b (J .ret ⟨(aa (aa (aa (aa (aa (aa (aa (aa (aa (aa (aa (aa (aa (aa Q3 51 (.bool true)) 52 bI) 51 (.bool true)) 53 bI) 51 (.bool true)) 54 bI) 51 (.bool true)) 55 bI) 51 (.bool true)) 56 bI) 51 (.bool true)) 57 bI) 58 (.bool true)) 4 (.bool false)),59,[],a⟩) (af (bT 2 (.ptr (Heap.next h) 0)) fun k=>af (ag none k a) fun l=>af (bT 2 (.ptr (Heap.next (Heap.alloc h (.cells [(.str []),(.int .i64 0),.ax]))) 0)) fun m=>af (ag none m a) fun n=>aB TP 51 [l,n] a (bJ (fun G I=>af (kF .not G) fun o=>let Q4:=(aa (aa (aa (aa (aa (aa (aa (aa (aa (aa (aa (aa (aa Q3 51 (.bool false)) 52 k) 51 (.bool false)) 53 l) 51 (.bool false)) 54 m) 51 (.bool false)) 55 n) 51 (.bool false)) 56 G) 51 (.bool false)) 57 o) 58 o);az o (J .ret ⟨(aa Q4 4 (.bool false)),59,[],I⟩) (af (aG .add (e 5) (.int .i64 1)) fun L=>J .normal ⟨(aa (aa (aa Q4 27 (e 5)) 28 L) 5 L),59,[],I⟩)) (fun O P=>J (.panic O) ⟨(aa (aa (aa (aa (aa (aa (aa (aa (aa Q3 51 (.bool false)) 52 k) 51 (.bool false)) 53 l) 51 (.bool false)) 54 m) 51 (.bool false)) 55 n) 51 (.bool false)),59,[],P⟩))))) else false) (J (.exit 0) ⟨Q1,59,[],h⟩)):=by kernel_rfl
theorem F.iO.aF:F.iO.cQ K (.exit 0) ⟨e,59,[],h⟩=(K (.ret (.bool true)) h):=by kernel_rfl
theorem F.EW:EV (ai Tryz.f16) ⟨aD [a0,a1],59,[],h⟩ (RL Tryz.f16 K)=(af (eZ a0) fun a=>af (eZ a1) fun b=>af (bT 0 (.ptr (Heap.next h) 0)) fun j=>af (ag none j (Heap.alloc (Heap.alloc h (.cells a)) (.cells b))) fun k=>af (bT 0 (.ptr (Heap.next (Heap.alloc h (.cells a))) 0)) fun l=>af (ag none l (Heap.alloc (Heap.alloc h (.cells a)) (.cells b))) fun m=>af (oA (.int .i64) k m) fun i=>az i (K (.ret (.bool false)) (Heap.alloc (Heap.alloc h (.cells a)) (.cells b))) (af (bT 1 (.ptr (Heap.next h) 0)) fun n=>af (ag none n (Heap.alloc (Heap.alloc h (.cells a)) (.cells b))) fun o=>af (bW .slice o (Heap.alloc (Heap.alloc h (.cells a)) (.cells b))) fun p=>af (bT 1 (.ptr (Heap.next (Heap.alloc h (.cells a))) 0)) fun d=>af (ag none d (Heap.alloc (Heap.alloc h (.cells a)) (.cells b))) fun f=>af (bW .slice f (Heap.alloc (Heap.alloc h (.cells a)) (.cells b))) fun g=>af (oA (.int .i64) p g) fun c=>az c (K (.ret (.bool false)) (Heap.alloc (Heap.alloc h (.cells a)) (.cells b))) (bY (EV F.iO.L0) ⟨(aa (aa (aa (aa (aa (aa (aa (aa (aa (aa (aa (aa (aa (aa (aa (aa (aa (aa (aa (aa (aa (aa (aa (aa (aa (aD [a0,a1]) 2 (.ptr (Heap.next h) 0)) 3 (.ptr (Heap.next (Heap.alloc h (.cells a))) 0)) 4 (.bool false)) 8 j) 9 k) 10 l) 11 m) 12 i) 13 i) 13 (.bool false)) 14 n) 13 (.bool false)) 15 o) 13 (.bool false)) 16 p) 13 (.bool false)) 17 d) 13 (.bool false)) 18 f) 13 (.bool false)) 19 g) 13 (.bool false)) 20 c) 21 c) 5 (.int .i64 0)),59,[],(Heap.alloc (Heap.alloc h (.cells a)) (.cells b))⟩ (F.iO.cQ K)))):=by kernel_rfl
theorem F.De(hh:EV (ai Tryz.f16) ⟨aD [a0,a1],59,[],h⟩ (RL Tryz.f16 K)=true):Sem TP 16 [a0,a1] h K:=
 SB Tryz.func16 rfl (by decide) (by kernel_rfl) hh
noncomputable def F.dU.L0:=partOf (ai Tryz.f51) [1,1,0,1,0,0]
noncomputable def F.dU.cQ(K:Out->Heap->Bool):=(bf 0 (cV false (EV (partOf (ai Tryz.f51) [1,1,1])) (RL Tryz.f51 K)))
theorem F.dU.aT:EV F.dU.L0 ⟨e,27,[],h⟩ J=(af (bW .slice (e 0) h) fun d=>af (aG .lss (e 5) d) fun f=>let Q1:=(aa (aa (aa (aa e 11 (e 5)) 12 (e 0)) 13 d) 14 f);az f (af (dH 1 (e 0) (e 5)) fun g=>af (ag none g h) fun i=>af (dH 1 (e 1) (e 5)) fun j=>af (ag none j h) fun k=>aB TP 20 [i,k] h (bJ (fun l a=>af (kF .not l) fun b=>let Q2:=(aa (aa (aa (aa (aa (aa (aa (aa (aa (aa Q1 17 (e 0)) 18 (e 5)) 19 g) 20 i) 21 (e 1)) 22 (e 5)) 23 j) 24 k) 25 l) 26 b);az b (J .ret ⟨(aa Q2 4 (.bool false)),27,[],a⟩) (af (aG .add (e 5) (.int .i64 1)) fun c=>J .normal ⟨(aa (aa (aa Q2 15 (e 5)) 16 c) 5 c),27,[],a⟩)) (fun _ _=>false))) (J (.exit 0) ⟨Q1,27,[],h⟩)):=by kernel_rfl
theorem F.dU.aF:F.dU.cQ K (.exit 0) ⟨e,27,[],h⟩=(K (.ret (.bool true)) h):=by kernel_rfl
theorem F.vJ:EV (ai Tryz.f51) ⟨aD [a0,a1],27,[],h⟩ (RL Tryz.f51 K)=(af (bW .slice a0 h) fun a=>af (bW .slice a1 h) fun b=>af (oA (.int .i64) a b) fun c=>az c (K (.ret (.bool false)) h) (bY (EV F.dU.L0) ⟨(aa (aa (aa (aa (aa (aa (aa (aD [a0,a1]) 4 (.bool false)) 6 a0) 7 a) 8 a1) 9 b) 10 c) 5 (.int .i64 0)),27,[],h⟩ (F.dU.cQ K))):=by kernel_rfl
theorem F.tL(hh:EV (ai Tryz.f51) ⟨aD [a0,a1],27,[],h⟩ (RL Tryz.f51 K)=true):Sem TP 51 [a0,a1] h K:=
 SB Tryz.func51 rfl (by decide) (by kernel_rfl) hh
noncomputable def F.cR.L0:=partOf (ai Tryz.f10) [1,1,1,1,0,1,0,0]
noncomputable def F.cR.cQ(K:Out->Heap->Bool):=(bf 0 (cV false (EV (partOf (ai Tryz.f10) [1,1,1,1,1])) (RL Tryz.f10 K)))
noncomputable def F.cR.L1:=partOf (ai Tryz.f10) [1,1,1,1,0,1,0,0,1,0,0,1,0,1,0,0]
noncomputable def F.cR.kJ(J:AX->St->Bool):=(bf 2 (cV false (EV (partOf (ai Tryz.f10) [1,1,1,1,0,1,0,0,1,0,0,1,1])) (bf 1 (cV false (EV (partOf (ai Tryz.f10) [1,1,1,1,0,1,0,0,1,1])) J))))
theorem F.cR.aT:EV F.cR.L0 ⟨e,50,[],h⟩ J=(af (bW .slice (e 0) h) fun a=>af (aG .lss (e 8) a) fun b=>let Q1:=(aa (aa (aa (aa e 24 (e 8)) 25 (e 0)) 26 a) 27 b);az b (bY (EV F.cR.L1) ⟨(aa (aa Q1 9 (.int .i64 1)) 10 (.int .i64 0)),50,[],h⟩ (F.cR.kJ J)) (J (.exit 0) ⟨Q1,50,[],h⟩)):=by kernel_rfl
theorem F.cR.aF:F.cR.cQ K (.exit 0) ⟨e,50,[],h⟩=(af (aG .leq (e 7) (e 2)) fun a=>K (.ret a) h):=by kernel_rfl
theorem F.cR.dr:EV F.cR.L1 ⟨e,50,[],h⟩ J=(af (dH 3 (e 0) (e 8)) fun b=>af (ag (some 3) b h) fun c=>aB TP 43 [c] h (bJ (fun d a=>af (bW .slice d a) fun f=>af (aG .lss (e 10) f) fun g=>let Q1:=(aa (aa (aa (aa (aa (aa (aa (aa e 30 (e 10)) 31 (e 0)) 32 (e 8)) 33 b) 34 c) 35 d) 36 f) 37 g);az g (af (bT 0 (e 4)) fun i=>af (ag none i a) fun j=>af (aG .mul (e 9) j) fun k=>af (aG .add (e 10) (.int .i64 1)) fun l=>J .normal ⟨(aa (aa (aa (aa (aa (aa (aa (aa Q1 40 (e 9)) 41 i) 42 j) 43 k) 9 k) 38 (e 10)) 39 l) 10 l),50,[],a⟩) (J (.exit 2) ⟨Q1,50,[],a⟩)) (fun m n=>J (.panic m) ⟨(aa (aa (aa (aa (aa e 30 (e 10)) 31 (e 0)) 32 (e 8)) 33 b) 34 c),50,[],n⟩))):=by kernel_rfl
theorem F.cR.cz:F.cR.kJ J (.exit 2) ⟨e,50,[],h⟩=(af (aG .add (e 7) (e 9)) fun a=>af (aG .add (e 8) (.int .i64 1)) fun b=>J .normal ⟨(aa (aa (aa (aa (aa (aa (aa e 44 (e 7)) 45 (e 9)) 46 a) 7 a) 28 (e 8)) 29 b) 8 b),50,[],h⟩):=by kernel_rfl
theorem F.Df:EV (ai Tryz.f10) ⟨aD [a0,a1,a2],50,[],h⟩ (RL Tryz.f10 K)=(af (eZ a1) fun r=>aB TP 41 [a0,(.int .i64 300)] (Heap.alloc h (.cells r)) (bJ (fun o b=>af (kF .not o) fun i=>az i (K (.ret (.bool false)) b) (af (ag (some 2) (.ptr (Heap.next h) 0) b) fun p=>af (gd [(.int .i64 0),.ax] [(0,2)] [p]) fun s=>aB TP 42 [(.slice (Heap.next b) 0 1 2)] (Heap.alloc b (.cells s)) (bJ (fun q j=>af (kF .not q) fun a=>az a (K (.ret (.bool false)) j) (af (ag (some 2) (.ptr (Heap.next h) 0) j) fun c=>aB TP 23 [a0,c] j (bJ (fun d f=>af (oA (.int .i64) d (.int .i64 0)) fun g=>az g (K (.ret (.bool true)) f) (bY (EV F.cR.L0) ⟨(aa (aa (aa (aa (aa (aa (aa (aa (aa (aa (aa (aa (aa (aa (aa (aa (aa (aa (aa (aa (aa (aD [a0,a1,a2]) 4 (.ptr (Heap.next h) 0)) 6 (.bool false)) 11 a0) 12 o) 13 i) 14 i) 14 (.bool false)) 15 p) 14 (.bool false)) 16 (.slice (Heap.next b) 0 1 2)) 14 (.bool false)) 17 q) 14 (.bool false)) 18 a) 19 a) 20 a0) 21 c) 22 d) 23 g) 7 (.int .i64 0)) 8 (.int .i64 0)),50,[],f⟩ (F.cR.cQ K))) (fun k l=>K (.panic k) l)))) (fun m n=>K (.panic m) n)))) (fun t u=>K (.panic t) u))):=by kernel_rfl
theorem F.Bv(hh:EV (ai Tryz.f10) ⟨aD [a0,a1,a2],50,[],h⟩ (RL Tryz.f10 K)=true):Sem TP 10 [a0,a1,a2] h K:=
 SB Tryz.func10 rfl (by decide) (by kernel_rfl) hh
theorem F.Dg:EV (ai Tryz.f60) ⟨aD [a0,a1],4,[],h⟩ (RL Tryz.f60 K)=(af (eZ a0) fun a=>K (.ret (.tuple [])) (Heap.alloc h (.cells a))):=by kernel_rfl
theorem F.Bw(hh:EV (ai Tryz.f60) ⟨aD [a0,a1],4,[],h⟩ (RL Tryz.f60 K)=true):Sem TP 60 [a0,a1] h K:=
 SB Tryz.func60 rfl (by decide) (by kernel_rfl) hh
end
end Go.AM
namespace Go.AM
open List Nat Bool Option
open Go
noncomputable section
def F1:xO:=fun x=>if x=130 then some (j8 (iX sA0 sR0) (j8 (iX sA1 sR1) (j8 (iX sA2 sR2) (j8 (iX sA3 sR3) (j8 (iX sA4 sR4) (j8 (iX sA5 sR5) (j8 (iX sA6 sR6) (j8 (iX sA7 sR7) (j8 (iX sA8 sR8) (j8 (iX sA9 sR9) (iX YX YY))))))))))) else if x=53 then some (j8 (iX YZ Y0) (j8 (dF 20 aar aas) (iX aat aau))) else if x=99 then some (iX Y1 Y2) else if x=121 then some (j8 (dF 20 Y3 Y4) (j8 (dF 20 Y5 Y6) (j8 (dF 20 Y7 Y8) (j8 (dF 20 Y9 Za) (j8 (dF 20 Zb Zc) (j8 (dF 20 Zd Ze) (j8 (dF 20 Zf Zg) (j8 (dF 20 Zh Zi) (j8 (dF 20 Zj Zk) (j8 (dF 20 Zl Zm) (j8 (dF 20 Zn Zo) (j8 (dF 20 Zp Zq) (j8 (dF 20 Zr Zs) (j8 (dF 20 Zt Zu) (j8 (dF 20 Zv Zw) (j8 (dF 20 Zx Zy) (j8 (dF 20 Zz ZA) (j8 (dF 20 ZB ZC) (j8 (dF 20 ZD ZE) (j8 (dF 20 ZF ZG) (j8 (dF 20 ZH ZI) (j8 (dF 20 ZJ ZK) (j8 (dF 20 ZL ZM) (j8 (dF 20 ZN ZO) (j8 (dF 20 ZP ZQ) (j8 (dF 20 ZR ZS) (j8 (dF 20 ZT ZU) (j8 (dF 20 ZV ZW) (j8 (dF 20 ZX ZY) (j8 (dF 20 ZZ Z0) (j8 (dF 20 Z1 Z2) (j8 (dF 20 Z3 Z4) (j8 (dF 20 Z5 Z6) (j8 (dF 20 Z7 Z8) (j8 (dF 20 Z9 aaa) (j8 (dF 20 aab aac) (j8 (dF 20 aad aae) (j8 (dF 20 aaf aag) (j8 (dF 20 aah aai) (j8 (dF 20 aaj aak) (j8 (dF 20 aal aam) (j8 (dF 20 aan aao) (dF 20 aap aaq))))))))))))))))))))))))))))))))))))))))))) else F0 x
theorem IY:iM TP F1:=by
 have hs:=j6 mixed qE tu 200;intro f g hg args h K hK;unfold F1 at hg;split at hg
 ·rename_i e;subst e;cases hg;rcases cu hK with hK|hK
  ·exact cJ hs (by kernel_rfl) Wq args h K hK
  rcases cu hK with hK|hK
  ·exact cJ hs (by kernel_rfl) Wr args h K hK
  rcases cu hK with hK|hK
  ·exact cJ hs (by kernel_rfl) Ws args h K hK
  rcases cu hK with hK|hK
  ·exact cJ hs (by kernel_rfl) Wt args h K hK
  rcases cu hK with hK|hK
  ·exact cJ hs (by kernel_rfl) Wu args h K hK
  rcases cu hK with hK|hK
  ·exact cJ hs (by kernel_rfl) Wv args h K hK
  rcases cu hK with hK|hK
  ·exact cJ hs (by kernel_rfl) Ww args h K hK
  rcases cu hK with hK|hK
  ·exact cJ hs (by kernel_rfl) Wx args h K hK
  rcases cu hK with hK|hK
  ·exact cJ hs (by kernel_rfl) Wy args h K hK
  rcases cu hK with hK|hK
  ·exact cJ hs (by kernel_rfl) Wz args h K hK
  exact cJ hs (by kernel_rfl) Sy args h K hK
 split at hg
 ·rename_i e;subst e;cases hg;rcases cu hK with hK|hK
  ·exact cJ hs (by kernel_rfl) Sz args h K hK
  rcases cu hK with hK|hK
  ·exact aZ hs Tl args h K hK
  exact cJ hs (by kernel_rfl) Tm args h K hK
 split at hg
 ·rename_i e;subst e;cases hg;exact cJ hs (by kernel_rfl) SA args h K hK
 split at hg
 ·rename_i e;subst e;cases hg;rcases cu hK with hK|hK
  ·exact aZ hs SC args h K hK
  rcases cu hK with hK|hK
  ·exact aZ hs SD args h K hK
  rcases cu hK with hK|hK
  ·exact aZ hs SE args h K hK
  rcases cu hK with hK|hK
  ·exact aZ hs SF args h K hK
  rcases cu hK with hK|hK
  ·exact aZ hs SG args h K hK
  rcases cu hK with hK|hK
  ·exact aZ hs SH args h K hK
  rcases cu hK with hK|hK
  ·exact aZ hs SI args h K hK
  rcases cu hK with hK|hK
  ·exact aZ hs SJ args h K hK
  rcases cu hK with hK|hK
  ·exact aZ hs SK args h K hK
  rcases cu hK with hK|hK
  ·exact aZ hs SL args h K hK
  rcases cu hK with hK|hK
  ·exact aZ hs SM args h K hK
  rcases cu hK with hK|hK
  ·exact aZ hs SN args h K hK
  rcases cu hK with hK|hK
  ·exact aZ hs SO args h K hK
  rcases cu hK with hK|hK
  ·exact aZ hs SP args h K hK
  rcases cu hK with hK|hK
  ·exact aZ hs SQ args h K hK
  rcases cu hK with hK|hK
  ·exact aZ hs SS args h K hK
  rcases cu hK with hK|hK
  ·exact aZ hs SU args h K hK
  rcases cu hK with hK|hK
  ·exact aZ hs SV args h K hK
  rcases cu hK with hK|hK
  ·exact aZ hs SW args h K hK
  rcases cu hK with hK|hK
  ·exact aZ hs SX args h K hK
  rcases cu hK with hK|hK
  ·exact aZ hs SY args h K hK
  rcases cu hK with hK|hK
  ·exact aZ hs SZ args h K hK
  rcases cu hK with hK|hK
  ·exact aZ hs S0 args h K hK
  rcases cu hK with hK|hK
  ·exact aZ hs S1 args h K hK
  rcases cu hK with hK|hK
  ·exact aZ hs S2 args h K hK
  rcases cu hK with hK|hK
  ·exact aZ hs S3 args h K hK
  rcases cu hK with hK|hK
  ·exact aZ hs S4 args h K hK
  rcases cu hK with hK|hK
  ·exact aZ hs S5 args h K hK
  rcases cu hK with hK|hK
  ·exact aZ hs S6 args h K hK
  rcases cu hK with hK|hK
  ·exact aZ hs S7 args h K hK
  rcases cu hK with hK|hK
  ·exact aZ hs S8 args h K hK
  rcases cu hK with hK|hK
  ·exact aZ hs S9 args h K hK
  rcases cu hK with hK|hK
  ·exact aZ hs Ta args h K hK
  rcases cu hK with hK|hK
  ·exact aZ hs Tb args h K hK
  rcases cu hK with hK|hK
  ·exact aZ hs Tc args h K hK
  rcases cu hK with hK|hK
  ·exact aZ hs Td args h K hK
  rcases cu hK with hK|hK
  ·exact aZ hs Te args h K hK
  rcases cu hK with hK|hK
  ·exact aZ hs Tf args h K hK
  rcases cu hK with hK|hK
  ·exact aZ hs Tg args h K hK
  rcases cu hK with hK|hK
  ·exact aZ hs Th args h K hK
  rcases cu hK with hK|hK
  ·exact aZ hs Ti args h K hK
  rcases cu hK with hK|hK
  ·exact aZ hs Tj args h K hK
  exact aZ hs Tk args h K hK
 exact qE f g hg args h K hK
def aav:List AV:=[(.agg [(.str [80]),(.au [(.str [120]),(.str [121])] 0 2 1)])]
def aaw:AV:=(.bool true)
theorem Tn:bP TP F1 D0 200 138 aav Heap.empty (cy false 20 aaw)=true:=by kernel_rfl
def aax:List AV:=[(.agg [(.str [80]),(.au [(.str [120]),(.str [121])] 0 2 1),(.au [(.int .i64 0),(.bool false),(.str [69]),(.au [(.str [120]),(.str [121])] 0 2 1)] 0 1 4)])]
def aay:AV:=(.au [(.str [120]),(.str [121])] 0 2 1)
theorem To:bP TP F1 D0 200 100 aax Heap.empty (cy false 20 aay)=true:=by kernel_rfl
def aaz:List AV:=[(.agg [(.int .i64 0),(.bool false),(.str [69]),(.au [(.str [120]),(.str [121])] 0 2 1)])]
def aaA:AV:=(.bool true)
theorem Tp:bP TP F1 D0 200 140 aaz Heap.empty (cy false 20 aaA)=true:=by kernel_rfl
def aaB:List AV:=[(.agg [(.str [80]),(.au [(.str [120]),(.str [121])] 0 2 1),(.au [(.int .i64 0),(.bool false),(.str [69]),(.au [(.str [120]),(.str [122])] 0 2 1),(.int .i64 0),(.bool false),(.str [80]),(.au [(.str [122]),(.str [121])] 0 2 1)] 0 2 4)])]
def aaC:AV:=(.au [(.str [120]),(.str [121]),(.str [122])] 0 3 1)
theorem Tq:bP TP F1 D0 200 100 aaB Heap.empty (cy false 20 aaC)=true:=by kernel_rfl
def aaD:List AV:=[(.agg [(.int .i64 0),(.bool false),(.str [69]),(.au [(.str [120]),(.str [122])] 0 2 1)])]
def aaE:AV:=(.bool true)
theorem Tr:bP TP F1 D0 200 140 aaD Heap.empty (cy false 20 aaE)=true:=by kernel_rfl
def aaF:List AV:=[(.agg [(.int .i64 0),(.bool false),(.str [80]),(.au [(.str [122]),(.str [121])] 0 2 1)])]
def aaG:AV:=(.bool true)
theorem Ts:bP TP F1 D0 200 140 aaF Heap.empty (cy false 20 aaG)=true:=by kernel_rfl
def aaH:List AV:=[(.agg [(.str [80]),(.au [(.str [120]),(.str [121])] 0 2 1)])]
def aaI:AV:=(.bool true)
theorem Tt:bP TP F1 D0 200 138 aaH Heap.empty (cy true 20 aaI)=true:=by kernel_rfl
def aaJ:List AV:=[(.agg [(.str [80]),(.au [(.str [120]),(.str [121])] 0 2 1),(.au [(.int .i64 0),(.bool false),(.str [69]),(.au [(.str [120]),(.str [121])] 0 2 1)] 0 1 4)])]
def aaK:AV:=(.au [(.str [120]),(.str [121])] 0 2 1)
theorem Tu:bP TP F1 D0 200 100 aaJ Heap.empty (cy true 20 aaK)=true:=by kernel_rfl
def aaL:List AV:=[(.agg [(.int .i64 0),(.bool false),(.str [69]),(.au [(.str [120]),(.str [121])] 0 2 1)])]
def aaM:AV:=(.bool true)
theorem Tv:bP TP F1 D0 200 140 aaL Heap.empty (cy true 20 aaM)=true:=by kernel_rfl
def aaN:List AV:=[(.agg [(.str [80]),(.au [(.str [120]),(.str [121])] 0 2 1),(.au [(.int .i64 0),(.bool false),(.str [69]),(.au [(.str [120]),(.str [122])] 0 2 1),(.int .i64 0),(.bool false),(.str [80]),(.au [(.str [122]),(.str [121])] 0 2 1)] 0 2 4)])]
def aaO:AV:=(.au [(.str [120]),(.str [121]),(.str [122])] 0 3 1)
theorem Tw:bP TP F1 D0 200 100 aaN Heap.empty (cy true 20 aaO)=true:=by kernel_rfl
def aaP:List AV:=[(.agg [(.int .i64 0),(.bool false),(.str [69]),(.au [(.str [120]),(.str [122])] 0 2 1)])]
def aaQ:AV:=(.bool true)
theorem Tx:bP TP F1 D0 200 140 aaP Heap.empty (cy true 20 aaQ)=true:=by kernel_rfl
def aaR:List AV:=[(.agg [(.int .i64 0),(.bool false),(.str [80]),(.au [(.str [122]),(.str [121])] 0 2 1)])]
def aaS:AV:=(.bool true)
theorem Ty:bP TP F1 D0 200 140 aaR Heap.empty (cy true 20 aaS)=true:=by kernel_rfl
def aaT:List AV:=[(.agg [(.int .i64 3),(.au [(.str [69]),(.int .i64 2),(.au [(.au [(.int .i64 0),(.int .i64 1)] 0 2 1),(.au [(.int .i64 1),(.int .i64 2)] 0 2 1)] 0 2 1)] 0 1 3)])]
def aaU:AV:=(.bool true)
theorem Tz:bP TP F1 D0 200 64 aaT Heap.empty (cy true 20 aaU)=true:=by kernel_rfl
def aaV:List AV:=[(.int .i64 0),(.agg [(.str [80]),(.au [(.str [120]),(.str [121])] 0 2 1),(.au [(.int .i64 0),(.bool false),(.str [69]),(.au [(.str [120]),(.str [121])] 0 2 1)] 0 1 4)])]
def aaW:AV:=(.agg [(.int .i64 0),(.str [80]),(.au [(.str [120]),(.str [121])] 0 2 1),(.au [(.int .i64 0),(.bool false),(.str [69]),(.au [(.str [120]),(.str [121])] 0 2 1)] 0 1 4),(.int .i64 2),(.au [(.int .i64 0),(.int .i64 1)] 0 2 1),(.au [(.au [(.int .i64 0),(.int .i64 1)] 0 2 1)] 0 1 1),(.au [(.int .i64 1)] 0 1 1)])
theorem TA:bP TP F1 D0 200 102 aaV Heap.empty (cy true 20 aaW)=true:=by kernel_rfl
def aaX:List AV:=[(.int .i64 1),(.agg [(.str [80]),(.au [(.str [120]),(.str [121])] 0 2 1),(.au [(.int .i64 0),(.bool false),(.str [69]),(.au [(.str [120]),(.str [122])] 0 2 1),(.int .i64 0),(.bool false),(.str [80]),(.au [(.str [122]),(.str [121])] 0 2 1)] 0 2 4)])]
def aaY:AV:=(.agg [(.int .i64 1),(.str [80]),(.au [(.str [120]),(.str [121])] 0 2 1),(.au [(.int .i64 0),(.bool false),(.str [69]),(.au [(.str [120]),(.str [122])] 0 2 1),(.int .i64 0),(.bool false),(.str [80]),(.au [(.str [122]),(.str [121])] 0 2 1)] 0 2 4),(.int .i64 3),(.au [(.int .i64 0),(.int .i64 1)] 0 2 1),(.au [(.au [(.int .i64 0),(.int .i64 2)] 0 2 1),(.au [(.int .i64 2),(.int .i64 1)] 0 2 1)] 0 2 1),(.au [(.int .i64 2),(.int .i64 2)] 0 2 1)])
theorem TB:bP TP F1 D0 200 102 aaX Heap.empty (cy true 20 aaY)=true:=by kernel_rfl
def aaZ:List AV:=[(.agg [(.int .i64 3),(.au [(.str [69]),(.int .i64 2),(.au [(.au [(.int .i64 0),(.int .i64 1)] 0 2 1),(.au [(.int .i64 1),(.int .i64 2)] 0 2 1)] 0 2 1)] 0 1 3)])]
def aa0:AV:=(.bool true)
theorem TC:bP TP F1 D0 200 64 aaZ Heap.empty (cy false 20 aa0)=true:=by kernel_rfl
def aa1:List AV:=[(.agg [(.int .i64 3),(.au [(.str [69]),(.int .i64 2),(.au [(.au [(.int .i64 1),(.int .i64 2)] 0 2 1)] 0 1 1)] 0 1 3)])]
def aa2:AV:=(.bool true)
theorem TD:bP TP F1 D0 200 64 aa1 Heap.empty (cy true 20 aa2)=true:=by kernel_rfl
def F2:xO:=fun x=>if x=138 then some (j8 (dF 20 aav aaw) (iX aaH aaI)) else if x=100 then some (j8 (dF 20 aax aay) (j8 (dF 20 aaB aaC) (j8 (iX aaJ aaK) (iX aaN aaO)))) else if x=140 then some (j8 (dF 20 aaz aaA) (j8 (dF 20 aaD aaE) (j8 (dF 20 aaF aaG) (j8 (iX aaL aaM) (j8 (iX aaP aaQ) (iX aaR aaS)))))) else if x=64 then some (j8 (iX aaT aaU) (j8 (dF 20 aaZ aa0) (iX aa1 aa2))) else if x=102 then some (j8 (iX aaV aaW) (iX aaX aaY)) else F1 x
theorem IZ:iM TP F2:=by
 have hs:=j6 mixed IY tu 200;intro f g hg args h K hK;unfold F2 at hg;split at hg
 ·rename_i e;subst e;cases hg;rcases cu hK with hK|hK
  ·exact aZ hs Tn args h K hK
  exact cJ hs (by kernel_rfl) Tt args h K hK
 split at hg
 ·rename_i e;subst e;cases hg;rcases cu hK with hK|hK
  ·exact aZ hs To args h K hK
  rcases cu hK with hK|hK
  ·exact aZ hs Tq args h K hK
  rcases cu hK with hK|hK
  ·exact cJ hs (by kernel_rfl) Tu args h K hK
  exact cJ hs (by kernel_rfl) Tw args h K hK
 split at hg
 ·rename_i e;subst e;cases hg;rcases cu hK with hK|hK
  ·exact aZ hs Tp args h K hK
  rcases cu hK with hK|hK
  ·exact aZ hs Tr args h K hK
  rcases cu hK with hK|hK
  ·exact aZ hs Ts args h K hK
  rcases cu hK with hK|hK
  ·exact cJ hs (by kernel_rfl) Tv args h K hK
  rcases cu hK with hK|hK
  ·exact cJ hs (by kernel_rfl) Tx args h K hK
  exact cJ hs (by kernel_rfl) Ty args h K hK
 split at hg
 ·rename_i e;subst e;cases hg;rcases cu hK with hK|hK
  ·exact cJ hs (by kernel_rfl) Tz args h K hK
  rcases cu hK with hK|hK
  ·exact aZ hs TC args h K hK
  exact cJ hs (by kernel_rfl) TD args h K hK
 split at hg
 ·rename_i e;subst e;cases hg;rcases cu hK with hK|hK
  ·exact cJ hs (by kernel_rfl) TA args h K hK
  exact cJ hs (by kernel_rfl) TB args h K hK
 exact IY f g hg args h K hK
def aa3:List AV:=[(.str [80,40,120,32,121,41,32,58,45,32,69,40,120,32,121,41,46,10,80,40,120,32,121,41,32,58,45,32,69,40,120,32,122,41,44,32,80,40,122,32,121,41,46,10])]
def aa4:AV:=(.tuple [(.au [(.str [80]),(.au [(.str [120]),(.str [121])] 0 2 1),(.au [(.int .i64 0),(.bool false),(.str [69]),(.au [(.str [120]),(.str [121])] 0 2 1)] 0 1 4),(.str [80]),(.au [(.str [120]),(.str [121])] 0 2 1),(.au [(.int .i64 0),(.bool false),(.str [69]),(.au [(.str [120]),(.str [122])] 0 2 1),(.int .i64 0),(.bool false),(.str [80]),(.au [(.str [122]),(.str [121])] 0 2 1)] 0 2 4)] 0 2 3),(.int .i64 0)])
theorem TE:bP TP F2 D0 200 44 aa3 Heap.empty (cy true 20 aa4)=true:=by kernel_rfl
def F3:xO:=fun x=>if x=44 then some (iX aa3 aa4) else F2 x
theorem I0:iM TP F3:=by
 have hs:=j6 mixed IZ tu 200;intro f g hg args h K hK;unfold F3 at hg;split at hg
 ·rename_i e;subst e;cases hg;exact cJ hs (by kernel_rfl) TE args h K hK
 exact IZ f g hg args h K hK
def aa5:List AV:=[(.agg [(.int .i64 3),(.au [(.str [69]),(.int .i64 2),(.au [(.au [(.int .i64 0),(.int .i64 1)] 0 2 1),(.au [(.int .i64 1),(.int .i64 2)] 0 2 1)] 0 2 1)] 0 1 3)]),(.str [69]),(.au [(.int .i64 0),(.int .i64 1)] 0 2 1),(.bool false)]
def aa6:AV:=(.tuple [(.agg [(.int .i64 3),(.au [(.str [69]),(.int .i64 2),(.au [(.au [(.int .i64 1),(.int .i64 2)] 0 2 1)] 0 1 1)] 0 1 3)]),(.int .i64 0)])
theorem TF:bP TP F3 D0 200 18 aa5 Heap.empty (cy false 20 aa6)=true:=by kernel_rfl
end
end Go.AM