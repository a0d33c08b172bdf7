/- Parts of the proof. Conditions: none. -/
import Derived.Test.YtfdanacohcffmaaGreatKd18
set_option linter.unusedVariables false
namespace Go.AM
open List Nat Bool Option
open Go Go.Proofs
noncomputable section
variable {K:Out->Heap->Bool} {h:Heap} {J:AX->St->Bool} {e:Env} {a0 a1 a2:AV}
noncomputable def F.cj.L0:=partOf (ah Tryz.f42) [1,1,0,1,0,0]
noncomputable def F.cj.cR(K:Out->Heap->Bool):=(aX 0 (cQ false (EV (partOf (ah Tryz.f42) [1,1,1])) (RL Tryz.f42 K)))
noncomputable def F.cj.L1:=partOf (ah Tryz.f42) [1,1,0,1,0,0,1,0,0,1,1,0,0]
noncomputable def F.cj.jF(J:AX->St->Bool):=(aX 2 (aX 1 (cQ false (EV (partOf (ah Tryz.f42) [1,1,0,1,0,0,1,1])) J)))
noncomputable def F.cj.L2:=partOf (ah Tryz.f42) [1,1,0,1,0,0,1,0,0,1,1,0,0,1,0,0,1,1,1,0,0]
noncomputable def F.cj.sY(J:AX->St->Bool):=(aX 4 (aX 3 (cQ false (EV (partOf (ah Tryz.f42) [1,1,0,1,0,0,1,0,0,1,1,0,0,1,1])) J)))
theorem F.cj.aT:EV F.cj.L0 ⟨e,89,[],h⟩ J=(af (bX .slice (e 0) h) fun a=>af (aG .lss (e 5) a) fun b=>let Q1:=(aa (aa (aa (aa e 8 (e 5)) 9 (e 0)) 10 a) 11 b);ay b (af (dN 2 (e 0) (e 5)) fun c=>af (bT 1 c) fun d=>af (ag none d h) fun f=>af (bX .slice f h) fun g=>af (aG .gtr g (.int .i64 12)) fun i=>let Q2:=(aa (aa (aa (aa (aa (aa (aa Q1 14 (e 0)) 15 (e 5)) 16 c) 17 d) 18 f) 19 g) 20 i);ay i (J .ret ⟨(aa Q2 2 (.bool false)),89,[],h⟩) (bV (EV F.cj.L1) ⟨(aa Q2 6 (.int .i64 0)),89,[],h⟩ (F.cj.jF J))) (J (.exit 0) ⟨Q1,89,[],h⟩)):=by kernel_rfl
theorem F.cj.aF:F.cj.cR K (.exit 0) ⟨e,89,[],h⟩=(af (aG .leq (e 4) (.int .i64 20000)) fun a=>K (.ret a) h):=by kernel_rfl
theorem F.cj.bz:F.cj.cR K .ret ⟨e,89,[],h⟩=(K (.ret (e 2)) h):=by kernel_rfl
theorem F.cj.dm:EV F.cj.L1 ⟨e,89,[],h⟩ J=(af (dN 2 (e 0) (e 5)) fun w=>af (bT 1 w) fun x=>af (ag none x h) fun d=>af (bX .slice d h) fun f=>af (aG .lss (e 6) f) fun g=>let Q1:=(aa (aa (aa (aa (aa (aa (aa (aa e 21 (e 6)) 22 (e 0)) 23 (e 5)) 24 w) 25 x) 26 d) 27 f) 28 g);ay g (af (dN 2 (e 0) (e 5)) fun i=>af (bT 1 i) fun j=>af (ag none j h) fun k=>af (dN 3 k (e 6)) fun l=>af (bT 2 l) fun m=>af (ag none m h) fun n=>af (bX .slice n h) fun o=>af (aG .add (e 3) o) fun a=>af (aG .gtr a (.int .i64 1500)) fun b=>let Q2:=(aa (aa (aa (aa (aa (aa (aa (aa (aa (aa (aa (aa (aa (aa (aa (aa Q1 31 (e 3)) 32 (e 0)) 33 (e 5)) 34 i) 35 j) 36 k) 37 (e 6)) 38 l) 39 m) 40 n) 41 o) 42 a) 3 a) 43 a) 44 b) 45 b);ay b (J .ret ⟨(aa (aa (aa (aa (aa (aa (aa (aa (aa (aa (aa (aa (aa (aa (aa (aa (aa (aa (aa (aa (aa (aa (aa (aa Q2 45 (.bool true)) 46 bM) 45 (.bool true)) 47 bM) 45 (.bool true)) 48 bM) 45 (.bool true)) 49 bM) 45 (.bool true)) 50 bM) 45 (.bool true)) 51 bM) 45 (.bool true)) 52 bM) 45 (.bool true)) 53 bM) 45 (.bool true)) 54 bM) 45 (.bool true)) 55 bM) 45 (.bool true)) 56 bM) 57 (.bool true)) 2 (.bool false)),89,[],h⟩) (af (dN 2 (e 0) (e 5)) fun p=>af (bT 1 p) fun q=>af (ag none q h) fun r=>af (dN 3 r (e 6)) fun s=>af (bT 0 s) fun t=>af (ag none t h) fun u=>af (bX .str u h) fun v=>af (aG .gtr v (.int .i64 1000)) fun c=>let Q3:=(aa (aa (aa (aa (aa (aa (aa (aa (aa (aa (aa (aa (aa (aa (aa (aa (aa (aa (aa (aa (aa (aa (aa Q2 45 (.bool false)) 46 (e 0)) 45 (.bool false)) 47 (e 5)) 45 (.bool false)) 48 p) 45 (.bool false)) 49 q) 45 (.bool false)) 50 r) 45 (.bool false)) 51 (e 6)) 45 (.bool false)) 52 s) 45 (.bool false)) 53 t) 45 (.bool false)) 54 u) 45 (.bool false)) 55 v) 45 (.bool false)) 56 c) 57 c);ay c (J .ret ⟨(aa Q3 2 (.bool false)),89,[],h⟩) (bV (EV F.cj.L2) ⟨(aa Q3 7 (.int .i64 0)),89,[],h⟩ (F.cj.sY J)))) (J (.exit 2) ⟨Q1,89,[],h⟩)):=by kernel_rfl
theorem F.cj.cq:F.cj.jF J (.exit 2) ⟨e,89,[],h⟩=(af (aG .add (e 5) (.int .i64 1)) fun a=>J .normal ⟨(aa (aa (aa e 12 (e 5)) 13 a) 5 a),89,[],h⟩):=by kernel_rfl
theorem F.cj.jP:F.cj.jF J .ret ⟨e,89,[],h⟩=(J .ret ⟨e,89,[],h⟩):=by kernel_rfl
theorem F.cj.jf:EV F.cj.L2 ⟨e,89,[],h⟩ J=(af (dN 2 (e 0) (e 5)) fun a=>af (bT 1 a) fun b=>af (ag none b h) fun c=>af (dN 3 c (e 6)) fun d=>af (bT 2 d) fun f=>af (ag none f h) fun g=>af (bX .slice g h) fun i=>af (aG .lss (e 7) i) fun j=>let Q1:=(aa (aa (aa (aa (aa (aa (aa (aa (aa (aa (aa (aa e 58 (e 7)) 59 (e 0)) 60 (e 5)) 61 a) 62 b) 63 c) 64 (e 6)) 65 d) 66 f) 67 g) 68 i) 69 j);ay j (af (dN 2 (e 0) (e 5)) fun k=>af (bT 1 k) fun l=>af (ag none l h) fun m=>af (dN 3 m (e 6)) fun n=>af (bT 2 n) fun o=>af (ag none o h) fun p=>af (dN 1 p (e 7)) fun q=>af (ag none q h) fun r=>af (bX .slice r h) fun s=>af (aG .add (e 4) s) fun t=>af (aG .add (e 7) (.int .i64 1)) fun u=>J .normal ⟨(aa (aa (aa (aa (aa (aa (aa (aa (aa (aa (aa (aa (aa (aa (aa (aa (aa (aa (aa Q1 72 (e 4)) 73 (e 0)) 74 (e 5)) 75 k) 76 l) 77 m) 78 (e 6)) 79 n) 80 o) 81 p) 82 (e 7)) 83 q) 84 r) 85 s) 86 t) 4 t) 70 (e 7)) 71 u) 7 u),89,[],h⟩) (J (.exit 4) ⟨Q1,89,[],h⟩)):=by kernel_rfl
theorem F.cj.fX:F.cj.sY J (.exit 4) ⟨e,89,[],h⟩=(af (aG .add (e 6) (.int .i64 1)) fun a=>J .normal ⟨(aa (aa (aa e 29 (e 6)) 30 a) 6 a),89,[],h⟩):=by kernel_rfl
theorem F.HO:EV (ah Tryz.f42) ⟨aE [a0],89,[],h⟩ (RL Tryz.f42 K)=(bV (EV F.cj.L0) ⟨(aa (aa (aa (aa (aE [a0]) 2 (.bool false)) 3 (.int .i64 0)) 4 (.int .i64 0)) 5 (.int .i64 0)),89,[],h⟩ (F.cj.cR K)):=by kernel_rfl
theorem F.Fp(hh:EV (ah Tryz.f42) ⟨aE [a0],89,[],h⟩ (RL Tryz.f42 K)=true):Sem TP 42 [a0] h K:=
 SB Tryz.func42 rfl (by decide) (by kernel_rfl) hh
noncomputable def F.ct.L0:=partOf (ah Tryz.f66) [1,1,0,1,0,0]
noncomputable def F.ct.cR(K:Out->Heap->Bool):=(aX 0 (cQ false (EV (partOf (ah Tryz.f66) [1,1,1])) (RL Tryz.f66 K)))
noncomputable def F.ct.L1:=partOf (ah Tryz.f66) [1,1,0,1,0,0,1,0,0,1,1,0,0]
noncomputable def F.ct.jF(J:AX->St->Bool):=(aX 2 (aX 1 (cQ false (EV (partOf (ah Tryz.f66) [1,1,0,1,0,0,1,1])) J)))
theorem F.ct.aT:EV F.ct.L0 ⟨e,53,[],h⟩ J=(af (bT 1 (e 1)) fun a=>af (ag none a h) fun b=>af (bX .slice b h) fun c=>af (aG .lss (e 3) c) fun d=>let Q1:=(aa (aa (aa (aa (aa e 19 (e 3)) 20 a) 21 b) 22 c) 23 d);ay d (af (bT 0 (e 1)) fun f=>af (ag none f h) fun g=>af (bT 1 (e 1)) fun i=>af (ag none i h) fun j=>af (dN 3 j (e 3)) fun k=>af (ag (some 3) k h) fun l=>aB TP 115 [g,l] h (bK (fun m n=>af (lU .not m) fun o=>let Q2:=(aa (aa (aa (aa (aa (aa (aa (aa (aa Q1 26 f) 27 g) 28 i) 29 j) 30 (e 3)) 31 k) 32 l) 33 m) 34 o);ay o (J .ret ⟨(aa Q2 2 (.bool false)),53,[],n⟩) (bV (EV F.ct.L1) ⟨(aa Q2 4 (.int .i64 0)),53,[],n⟩ (F.ct.jF J))) (fun _ _=>false))) (J (.exit 0) ⟨Q1,53,[],h⟩)):=by kernel_rfl
theorem F.ct.aF:F.ct.cR K (.exit 0) ⟨e,53,[],h⟩=(K (.ret (.bool true)) h):=by kernel_rfl
theorem F.ct.bz:F.ct.cR K .ret ⟨e,53,[],h⟩=(K (.ret (e 2)) h):=by kernel_rfl
theorem F.ct.dm:EV F.ct.L1 ⟨e,53,[],h⟩ J=(af (aG .lss (e 4) (e 3)) fun a=>let Q1:=(aa (aa (aa e 35 (e 4)) 36 (e 3)) 37 a);ay a (af (bT 1 (e 1)) fun b=>af (ag none b h) fun c=>af (dN 3 c (e 4)) fun d=>af (bT 0 d) fun f=>af (ag none f h) fun g=>af (bT 1 (e 1)) fun i=>af (ag none i h) fun j=>af (dN 3 j (e 3)) fun k=>af (bT 0 k) fun l=>af (ag none l h) fun m=>af (jK .string g m) fun n=>let Q2:=(aa (aa (aa (aa (aa (aa (aa (aa (aa (aa (aa (aa (aa Q1 40 b) 41 c) 42 (e 4)) 43 d) 44 f) 45 g) 46 i) 47 j) 48 (e 3)) 49 k) 50 l) 51 m) 52 n);ay n (J .ret ⟨(aa Q2 2 (.bool false)),53,[],h⟩) (af (aG .add (e 4) (.int .i64 1)) fun o=>J .normal ⟨(aa (aa (aa Q2 38 (e 4)) 39 o) 4 o),53,[],h⟩)) (J (.exit 2) ⟨Q1,53,[],h⟩)):=by kernel_rfl
theorem F.ct.cq:F.ct.jF J (.exit 2) ⟨e,53,[],h⟩=(af (aG .add (e 3) (.int .i64 1)) fun a=>J .normal ⟨(aa (aa (aa e 24 (e 3)) 25 a) 3 a),53,[],h⟩):=by kernel_rfl
theorem F.ct.jP:F.ct.jF J .ret ⟨e,53,[],h⟩=(J .ret ⟨e,53,[],h⟩):=by kernel_rfl
theorem F.Dz:EV (ah Tryz.f66) ⟨aE [a0],53,[],h⟩ (RL Tryz.f66 K)=(af (eW a0) fun a=>af (bT 0 (.ptr (Heap.next h) 0)) fun f=>af (ag none f (Heap.alloc h (.cells a))) fun g=>af (aG .lss g (.int .i64 1)) fun d=>ay d (K (.ret (.bool false)) (Heap.alloc h (.cells a))) (af (bT 0 (.ptr (Heap.next h) 0)) fun i=>af (ag none i (Heap.alloc h (.cells a))) fun j=>af (aG .gtr j (.int .i64 64)) fun c=>ay c (K (.ret (.bool false)) (Heap.alloc h (.cells a))) (af (bT 1 (.ptr (Heap.next h) 0)) fun k=>af (ag none k (Heap.alloc h (.cells a))) fun l=>af (bX .slice l (Heap.alloc h (.cells a))) fun m=>af (aG .gtr m (.int .i64 8)) fun b=>ay b (K (.ret (.bool false)) (Heap.alloc h (.cells a))) (bV (EV F.ct.L0) ⟨(aa (aa (aa (aa (aa (aa (aa (aa (aa (aa (aa (aa (aa (aa (aa (aa (aa (aa (aa (aa (aa (aa (aa (aa (aE [a0]) 1 (.ptr (Heap.next h) 0)) 2 (.bool false)) 5 f) 6 g) 7 d) 8 d) 8 (.bool false)) 9 i) 8 (.bool false)) 10 j) 8 (.bool false)) 11 c) 12 c) 13 c) 13 (.bool false)) 14 k) 13 (.bool false)) 15 l) 13 (.bool false)) 16 m) 13 (.bool false)) 17 b) 18 b) 3 (.int .i64 0)),53,[],(Heap.alloc h (.cells a))⟩ (F.ct.cR K))))):=by kernel_rfl
theorem F.BL(hh:EV (ah Tryz.f66) ⟨aE [a0],53,[],h⟩ (RL Tryz.f66 K)=true):Sem TP 66 [a0] h K:=
 SB Tryz.func66 rfl (by decide) (by kernel_rfl) hh
noncomputable def F.fc.L0:=partOf (ah Tryz.f67) [1,0,1,0,0]
noncomputable def F.fc.cR(K:Out->Heap->Bool):=(aX 0 (cQ false (EV (partOf (ah Tryz.f67) [1,1])) (RL Tryz.f67 K)))
theorem F.fc.aT:EV F.fc.L0 ⟨e,36,[],h⟩ J=(af (bX .slice (e 1) h) fun p=>af (aG .lss (e 5) p) fun q=>let Q1:=(aa (aa (aa (aa e 7 (e 5)) 8 (e 1)) 9 p) 10 q);ay q (af (ag (some 2) (e 2) h) fun r=>af (dN 2 (e 1) (e 5)) fun s=>af (bT 0 s) fun t=>af (ag none t h) fun u=>aB TP 69 [r,u] h (bK (fun b c=>af (aG .lss b (.int .i64 0)) fun o=>let Q2:=(aa (aa (aa (aa (aa (aa (aa (aa (aa (aa (aa Q1 13 r) 14 (e 1)) 15 (e 5)) 16 s) 17 t) 18 u) 19 b) 6 b) 20 b) 21 o) 22 o);ay o (J .ret ⟨(aa (aa (aa (aa (aa (aa (aa (aa (aa (aa (aa (aa (aa (aa (aa (aa (aa (aa (aa (aa (aa (aa (aa (aa (aa (aa Q2 22 (.bool true)) 23 bM) 22 (.bool true)) 24 bM) 22 (.bool true)) 25 bM) 22 (.bool true)) 26 bM) 22 (.bool true)) 27 bM) 22 (.bool true)) 28 bM) 22 (.bool true)) 29 bM) 22 (.bool true)) 30 bM) 22 (.bool true)) 31 bM) 22 (.bool true)) 32 bM) 22 (.bool true)) 33 bM) 22 (.bool true)) 34 bM) 35 (.bool true)) 4 (.bool false)),36,[],c⟩) (af (bT 1 (e 2)) fun d=>af (ag none d c) fun f=>af (dN 3 f b) fun g=>af (bT 1 g) fun i=>af (ag none i c) fun j=>af (dN 2 (e 1) (e 5)) fun k=>af (bT 1 k) fun l=>af (ag none l c) fun m=>af (qF (.int .i64) j m) fun a=>let Q3:=(aa (aa (aa (aa (aa (aa (aa (aa (aa (aa (aa (aa (aa (aa (aa (aa (aa (aa (aa (aa (aa (aa (aa (aa (aa Q2 22 (.bool false)) 23 d) 22 (.bool false)) 24 f) 22 (.bool false)) 25 b) 22 (.bool false)) 26 g) 22 (.bool false)) 27 i) 22 (.bool false)) 28 j) 22 (.bool false)) 29 (e 1)) 22 (.bool false)) 30 (e 5)) 22 (.bool false)) 31 k) 22 (.bool false)) 32 l) 22 (.bool false)) 33 m) 22 (.bool false)) 34 a) 35 a);ay a (J .ret ⟨(aa Q3 4 (.bool false)),36,[],c⟩) (af (aG .add (e 5) (.int .i64 1)) fun n=>J .normal ⟨(aa (aa (aa Q3 11 (e 5)) 12 n) 5 n),36,[],c⟩))) (fun _ _=>false))) (J (.exit 0) ⟨Q1,36,[],h⟩)):=by kernel_rfl
theorem F.fc.aF:F.fc.cR K (.exit 0) ⟨e,36,[],h⟩=(K (.ret (.bool true)) h):=by kernel_rfl
theorem F.fc.bz:F.fc.cR K .ret ⟨e,36,[],h⟩=(K (.ret (e 4)) h):=by kernel_rfl
theorem F.Fq:EV (ah Tryz.f67) ⟨aE [a0,a1],36,[],h⟩ (RL Tryz.f67 K)=(af (eW a0) fun a=>bV (EV F.fc.L0) ⟨(aa (aa (aa (aE [a0,a1]) 2 (.ptr (Heap.next h) 0)) 4 (.bool false)) 5 (.int .i64 0)),36,[],(Heap.alloc h (.cells a))⟩ (F.fc.cR K)):=by kernel_rfl
theorem F.DA(hh:EV (ah Tryz.f67) ⟨aE [a0,a1],36,[],h⟩ (RL Tryz.f67 K)=true):Sem TP 67 [a0,a1] h K:=
 SB Tryz.func67 rfl (by decide) (by kernel_rfl) hh
noncomputable def F.fe.L0:=partOf (ah Tryz.f69) [1,0,1,0,0]
noncomputable def F.fe.cR(K:Out->Heap->Bool):=(aX 0 (cQ false (EV (partOf (ah Tryz.f69) [1,1])) (RL Tryz.f69 K)))
theorem F.fe.aT:EV F.fe.L0 ⟨e,22,[],h⟩ J=(af (bT 1 (e 2)) fun c=>af (ag none c h) fun d=>af (bX .slice d h) fun f=>af (aG .lss (e 5) f) fun g=>let Q1:=(aa (aa (aa (aa (aa e 6 (e 5)) 7 c) 8 d) 9 f) 10 g);ay g (af (bT 1 (e 2)) fun i=>af (ag none i h) fun j=>af (dN 3 j (e 5)) fun k=>af (bT 0 k) fun l=>af (ag none l h) fun m=>af (jK .string m (e 1)) fun a=>let Q2:=(aa (aa (aa (aa (aa (aa (aa (aa Q1 13 i) 14 j) 15 (e 5)) 16 k) 17 l) 18 m) 19 (e 1)) 20 a);ay a (J .ret ⟨(aa (aa Q2 21 (e 5)) 4 (e 5)),22,[],h⟩) (af (aG .add (e 5) (.int .i64 1)) fun b=>J .normal ⟨(aa (aa (aa Q2 11 (e 5)) 12 b) 5 b),22,[],h⟩)) (J (.exit 0) ⟨Q1,22,[],h⟩)):=by kernel_rfl
theorem F.fe.aF:F.fe.cR K (.exit 0) ⟨e,22,[],h⟩=(K (.ret (.int .i64 (-1))) h):=by kernel_rfl
theorem F.fe.bz:F.fe.cR K .ret ⟨e,22,[],h⟩=(K (.ret (e 4)) h):=by kernel_rfl
theorem F.Fs:EV (ah Tryz.f69) ⟨aE [a0,a1],22,[],h⟩ (RL Tryz.f69 K)=(af (eW a0) fun a=>bV (EV F.fe.L0) ⟨(aa (aa (aa (aE [a0,a1]) 2 (.ptr (Heap.next h) 0)) 4 (.int .i64 0)) 5 (.int .i64 0)),22,[],(Heap.alloc h (.cells a))⟩ (F.fe.cR K)):=by kernel_rfl
theorem F.DC(hh:EV (ah Tryz.f69) ⟨aE [a0,a1],22,[],h⟩ (RL Tryz.f69 K)=true):Sem TP 69 [a0,a1] h K:=
 SB Tryz.func69 rfl (by decide) (by kernel_rfl) hh
noncomputable def F.iy.L0:=partOf (ah Tryz.f155) [1,1,0,1,0,0]
noncomputable def F.iy.cR(K:Out->Heap->Bool):=(aX 0 (cQ false (EV (partOf (ah Tryz.f155) [1,1,1])) (RL Tryz.f155 K)))
theorem F.iy.aT:EV F.iy.L0 ⟨e,20,[],h⟩ J=(af (aG .lss (e 6) (e 1)) fun a=>let Q1:=(aa (aa (aa (aa e 7 (e 6)) 8 (e 1)) 9 a) 10 a);ay a (af (aG .leq (e 5) (.int .i64 4096)) fun b=>let Q2:=(aa (aa (aa (aa (aa Q1 10 (.bool true)) 11 (e 5)) 10 (.bool true)) 12 b) 13 b);ay b (af (aG .mul (e 5) (e 0)) fun c=>af (aG .add (e 6) (.int .i64 1)) fun d=>J .normal ⟨(aa (aa (aa (aa (aa (aa (aa Q2 16 (e 5)) 17 (e 0)) 18 c) 5 c) 14 (e 6)) 15 d) 6 d),20,[],h⟩) (J (.exit 0) ⟨Q2,20,[],h⟩)) (J (.exit 0) ⟨(aa (aa (aa (aa (aa Q1 10 (.bool false)) 11 bM) 10 (.bool false)) 12 bM) 13 (.bool false)),20,[],h⟩)):=by kernel_rfl
theorem F.iy.aF:F.iy.cR K (.exit 0) ⟨e,20,[],h⟩=(K (.ret (e 5)) h):=by kernel_rfl
theorem F.HP:EV (ah Tryz.f155) ⟨aE [a0,a1],20,[],h⟩ (RL Tryz.f155 K)=(bV (EV F.iy.L0) ⟨(aa (aa (aa (aE [a0,a1]) 4 (.int .i64 0)) 5 (.int .i64 1)) 6 (.int .i64 0)),20,[],h⟩ (F.iy.cR K)):=by kernel_rfl
theorem F.Ft(hh:EV (ah Tryz.f155) ⟨aE [a0,a1],20,[],h⟩ (RL Tryz.f155 K)=true):Sem TP 155 [a0,a1] h K:=
 SB Tryz.func155 rfl (by decide) (by kernel_rfl) hh
noncomputable def F.dQ.L0:=partOf (ah Tryz.f64) [1,1,0,1,0,0]
noncomputable def F.dQ.cR(K:Out->Heap->Bool):=(aX 0 (cQ false (EV (partOf (ah Tryz.f64) [1,1,1])) (RL Tryz.f64 K)))
theorem F.dQ.aT:EV F.dQ.L0 ⟨e,63,[],h⟩ J=(af (aG .lss (e 22) (e 21)) fun y=>let Q1:=(aa e 23 y);ay y (af (dN 3 (e 20) (e 22)) fun g=>af (ag (some 3) g h) fun i=>af (bf 3 (.ptr (Heap.next h) 0) i (Heap.alloc h (.cells [(.str []),(.int .i64 0),.ax]))) fun z=>af (bT 0 (.ptr (Heap.next h) 0)) fun j=>af (ag none j z) fun k=>aB TP 107 [k] z (bK (fun A a=>af (lU .not A) fun l=>let Q2:=(aa (aa (aa (aa (aa (aa (aa (aa (aa (aa Q1 24 (e 22)) 25 g) 26 i) 4 (.ptr (Heap.next h) 0)) 3 (e 22)) 27 j) 28 k) 29 A) 30 l) 31 l);ay l (J .ret ⟨(aa (aa (aa (aa (aa (aa (aa (aa (aa (aa (aa (aa (aa (aa (aa (aa (aa (aa (aa (aa (aa (aa (aa (aa (aa (aa (aa (aa (aa (aa (aa (aa (aa (aa (aa (aa (aa (aa (aa (aa (aa (aa Q2 31 (.bool true)) 32 bM) 31 (.bool true)) 33 bM) 31 (.bool true)) 34 bM) 35 (.bool true)) 36 (.bool true)) 36 (.bool true)) 37 bM) 36 (.bool true)) 38 bM) 36 (.bool true)) 39 bM) 40 (.bool true)) 41 (.bool true)) 41 (.bool true)) 42 bM) 41 (.bool true)) 43 bM) 41 (.bool true)) 44 bM) 41 (.bool true)) 45 bM) 41 (.bool true)) 46 bM) 41 (.bool true)) 47 bM) 48 (.bool true)) 49 (.bool true)) 49 (.bool true)) 50 bM) 49 (.bool true)) 51 bM) 49 (.bool true)) 52 bM) 49 (.bool true)) 53 bM) 49 (.bool true)) 54 bM) 55 (.bool true)) 2 (.bool false)),63,[],a⟩) (af (bT 1 (.ptr (Heap.next h) 0)) fun B=>af (ag none B a) fun C=>af (aG .lss C (.int .i64 0)) fun b=>let Q3:=(aa (aa (aa (aa (aa (aa (aa (aa Q2 31 (.bool false)) 32 B) 31 (.bool false)) 33 C) 31 (.bool false)) 34 b) 35 b) 36 b);ay b (J .ret ⟨(aa (aa (aa (aa (aa (aa (aa (aa (aa (aa (aa (aa (aa (aa (aa (aa (aa (aa (aa (aa (aa (aa (aa (aa (aa (aa (aa (aa (aa (aa (aa (aa (aa (aa Q3 36 (.bool true)) 37 bM) 36 (.bool true)) 38 bM) 36 (.bool true)) 39 bM) 40 (.bool true)) 41 (.bool true)) 41 (.bool true)) 42 bM) 41 (.bool true)) 43 bM) 41 (.bool true)) 44 bM) 41 (.bool true)) 45 bM) 41 (.bool true)) 46 bM) 41 (.bool true)) 47 bM) 48 (.bool true)) 49 (.bool true)) 49 (.bool true)) 50 bM) 49 (.bool true)) 51 bM) 49 (.bool true)) 52 bM) 49 (.bool true)) 53 bM) 49 (.bool true)) 54 bM) 55 (.bool true)) 2 (.bool false)),63,[],a⟩) (af (bT 1 (.ptr (Heap.next h) 0)) fun D=>af (ag none D a) fun E=>af (aG .gtr E (.int .i64 12)) fun c=>let Q4:=(aa (aa (aa (aa (aa (aa (aa (aa Q3 36 (.bool false)) 37 D) 36 (.bool false)) 38 E) 36 (.bool false)) 39 c) 40 c) 41 c);ay c (J .ret ⟨(aa (aa (aa (aa (aa (aa (aa (aa (aa (aa (aa (aa (aa (aa (aa (aa (aa (aa (aa (aa (aa (aa (aa (aa (aa (aa Q4 41 (.bool true)) 42 bM) 41 (.bool true)) 43 bM) 41 (.bool true)) 44 bM) 41 (.bool true)) 45 bM) 41 (.bool true)) 46 bM) 41 (.bool true)) 47 bM) 48 (.bool true)) 49 (.bool true)) 49 (.bool true)) 50 bM) 49 (.bool true)) 51 bM) 49 (.bool true)) 52 bM) 49 (.bool true)) 53 bM) 49 (.bool true)) 54 bM) 55 (.bool true)) 2 (.bool false)),63,[],a⟩) (af (bT 0 (e 1)) fun m=>af (ag none m a) fun n=>af (bT 1 (.ptr (Heap.next h) 0)) fun o=>af (ag none o a) fun p=>aB TP 108 [n,p,(.int .i64 4096)] a (bK (fun G d=>af (aG .lss G (.int .i64 0)) fun f=>let Q5:=(aa (aa (aa (aa (aa (aa (aa (aa (aa (aa (aa (aa (aa (aa Q4 41 (.bool false)) 42 m) 41 (.bool false)) 43 n) 41 (.bool false)) 44 o) 41 (.bool false)) 45 p) 41 (.bool false)) 46 G) 41 (.bool false)) 47 f) 48 f) 49 f);ay f (J .ret ⟨(aa (aa (aa (aa (aa (aa (aa (aa (aa (aa (aa (aa Q5 49 (.bool true)) 50 bM) 49 (.bool true)) 51 bM) 49 (.bool true)) 52 bM) 49 (.bool true)) 53 bM) 49 (.bool true)) 54 bM) 55 (.bool true)) 2 (.bool false)),63,[],d⟩) (af (bT 0 (e 1)) fun q=>af (ag none q d) fun r=>af (ag (some 3) (.ptr (Heap.next h) 0) d) fun s=>aB TP 109 [r,s] d (bK (fun I t=>af (lU .not I) fun u=>let Q6:=(aa (aa (aa (aa (aa (aa (aa (aa (aa (aa (aa Q5 49 (.bool false)) 50 q) 49 (.bool false)) 51 r) 49 (.bool false)) 52 s) 49 (.bool false)) 53 I) 49 (.bool false)) 54 u) 55 u);ay u (J .ret ⟨(aa Q6 2 (.bool false)),63,[],t⟩) (af (bT 1 (e 1)) fun v=>af (ag none v t) fun w=>af (ja (some 3) w none (some (e 22))) fun x=>aB TP 110 [x,(.func 111 [] [(.ptr (Heap.next h) 0)])] t (bK (fun L M=>let Q7:=(aa (aa (aa (aa (aa (aa Q6 56 v) 57 w) 58 (e 22)) 59 x) 60 (.func 111 [] [(.ptr (Heap.next h) 0)])) 61 L);ay L (J .ret ⟨(aa Q7 2 (.bool false)),63,[],M⟩) (af (aG .add (e 22) (.int .i64 1)) fun N=>J .normal ⟨(aa (aa Q7 62 N) 22 N),63,[],M⟩)) (fun O P=>J (.panic O) ⟨(aa (aa (aa (aa (aa Q6 56 v) 57 w) 58 (e 22)) 59 x) 60 (.func 111 [] [(.ptr (Heap.next h) 0)])),63,[],P⟩)))) (fun R S=>J (.panic R) ⟨(aa (aa (aa (aa (aa (aa (aa Q5 49 (.bool false)) 50 q) 49 (.bool false)) 51 r) 49 (.bool false)) 52 s) 49 (.bool false)),63,[],S⟩)))) (fun T U=>J (.panic T) ⟨(aa (aa (aa (aa (aa (aa (aa (aa (aa Q4 41 (.bool false)) 42 m) 41 (.bool false)) 43 n) 41 (.bool false)) 44 o) 41 (.bool false)) 45 p) 41 (.bool false)),63,[],U⟩)))))) (fun V W=>J (.panic V) ⟨(aa (aa (aa (aa (aa (aa (aa Q1 24 (e 22)) 25 g) 26 i) 4 (.ptr (Heap.next h) 0)) 3 (e 22)) 27 j) 28 k),63,[],W⟩))) (J (.exit 0) ⟨Q1,63,[],h⟩)):=by kernel_rfl
theorem F.dQ.aF:F.dQ.cR K (.exit 0) ⟨e,63,[],h⟩=(K (.ret (.bool true)) h):=by kernel_rfl
theorem F.dQ.bz:F.dQ.cR K .ret ⟨e,63,[],h⟩=(K (.ret (e 2)) h):=by kernel_rfl
theorem F.DD:EV (ah Tryz.f64) ⟨aE [a0],63,[],h⟩ (RL Tryz.f64 K)=(af (eW a0) fun a=>af (bT 0 (.ptr (Heap.next h) 0)) fun j=>af (ag none j (Heap.alloc h (.cells a))) fun k=>af (aG .lss k (.int .i64 1)) fun g=>ay g (K (.ret (.bool false)) (Heap.alloc h (.cells a))) (af (bT 0 (.ptr (Heap.next h) 0)) fun l=>af (ag none l (Heap.alloc h (.cells a))) fun m=>af (aG .gtr m (.int .i64 64)) fun f=>ay f (K (.ret (.bool false)) (Heap.alloc h (.cells a))) (af (bT 1 (.ptr (Heap.next h) 0)) fun n=>af (ag none n (Heap.alloc h (.cells a))) fun o=>af (bX .slice o (Heap.alloc h (.cells a))) fun p=>af (aG .gtr p (.int .i64 8)) fun b=>ay b (K (.ret (.bool false)) (Heap.alloc h (.cells a))) (af (bT 1 (.ptr (Heap.next h) 0)) fun c=>af (ag none c (Heap.alloc h (.cells a))) fun d=>af (bX .slice d (Heap.alloc h (.cells a))) fun i=>bV (EV F.dQ.L0) ⟨(aa (aa (aa (aa (aa (aa (aa (aa (aa (aa (aa (aa (aa (aa (aa (aa (aa (aa (aa (aa (aa (aa (aa (aa (aa (aa (aa (aE [a0]) 1 (.ptr (Heap.next h) 0)) 2 (.bool false)) 5 j) 6 k) 7 g) 8 g) 8 (.bool false)) 9 l) 8 (.bool false)) 10 m) 8 (.bool false)) 11 f) 12 f) 13 f) 13 (.bool false)) 14 n) 13 (.bool false)) 15 o) 13 (.bool false)) 16 p) 13 (.bool false)) 17 b) 18 b) 19 c) 20 d) 21 i) 22 (.int .i64 0)),63,[],(Heap.alloc h (.cells a))⟩ (F.dQ.cR K))))):=by kernel_rfl
theorem F.BM(hh:EV (ah Tryz.f64) ⟨aE [a0],63,[],h⟩ (RL Tryz.f64 K)=true):Sem TP 64 [a0] h K:=
 SB Tryz.func64 rfl (by decide) (by kernel_rfl) hh
theorem F.Fu:EV (ah Tryz.f53) ⟨aE [a0,a1,a2],11,[],h⟩ (RL Tryz.f53 K)=(af (eW a0) fun a=>af (eW a1) fun b=>af (eW a2) fun c=>af (bT 1 (.ptr (Heap.next h) 0)) fun d=>af (ag none d (Heap.alloc (Heap.alloc (Heap.alloc h (.cells a)) (.cells b)) (.cells c))) fun f=>aB TP 76 [f,(.func 94 [] [(.ptr (Heap.next (Heap.alloc h (.cells a))) 0),(.ptr (Heap.next (Heap.alloc (Heap.alloc h (.cells a)) (.cells b))) 0)])] (Heap.alloc (Heap.alloc (Heap.alloc h (.cells a)) (.cells b)) (.cells c)) (bK (fun g i=>K (.ret g) i) (fun j k=>K (.panic j) k))):=by kernel_rfl
theorem F.DE(hh:EV (ah Tryz.f53) ⟨aE [a0,a1,a2],11,[],h⟩ (RL Tryz.f53 K)=true):Sem TP 53 [a0,a1,a2] h K:=
 SB Tryz.func53 rfl (by decide) (by kernel_rfl) hh
noncomputable def F.bF.L0:=partOf (ah Tryz.f55) [1,0,1,0,0]
noncomputable def F.bF.cR(K:Out->Heap->Bool):=(aX 0 (cQ false (EV (partOf (ah Tryz.f55) [1,1])) (RL Tryz.f55 K)))
theorem F.bF.aT:EV F.bF.L0 ⟨e,36,[],h⟩ J=(af (aG .lss (e 11) (e 10)) fun k=>let Q1:=(aa e 12 k);ay k (af (dN 1 (e 9) (e 11)) fun l=>af (ag none l h) fun c=>af (bX .slice (e 1) h) fun m=>af (aG .geq (e 11) m) fun n=>let Q2:=(aa (aa (aa (aa (aa (aa (aa (aa (aa Q1 13 (e 11)) 14 l) 15 c) 5 (e 11)) 6 c) 16 (e 11)) 17 (e 1)) 18 m) 19 n);ay n (J .ret ⟨(aa Q2 4 (.int .i64 1)),36,[],h⟩) (af (dN 1 (e 1) (e 11)) fun g=>af (ag none g h) fun a=>aB TP 95 [c,a] h (bK (fun b o=>af (qF (.int .i64) b (.int .i64 0)) fun d=>let Q3:=(aa (aa (aa (aa (aa (aa (aa (aa (aa (aa (aa Q2 20 (e 1)) 21 (e 11)) 22 g) 23 a) 7 a) 24 c) 25 a) 26 b) 8 b) 27 b) 28 d);ay d (J .ret ⟨(aa (aa Q3 29 b) 4 b),36,[],o⟩) (af (aG .add (e 11) (.int .i64 1)) fun f=>J .normal ⟨(aa (aa Q3 30 f) 11 f),36,[],o⟩)) (fun i j=>J (.panic i) ⟨(aa (aa (aa (aa (aa (aa (aa Q2 20 (e 1)) 21 (e 11)) 22 g) 23 a) 7 a) 24 c) 25 a),36,[],j⟩)))) (J (.exit 0) ⟨Q1,36,[],h⟩)):=by kernel_rfl
theorem F.bF.aF:F.bF.cR K (.exit 0) ⟨e,36,[],h⟩=(af (bX .slice (e 0) h) fun a=>af (bX .slice (e 1) h) fun b=>af (aG .lss a b) fun c=>ay c (K (.ret (.int .i64 (-1))) h) (K (.ret (.int .i64 0)) h)):=by kernel_rfl
theorem F.bF.bz:F.bF.cR K .ret ⟨e,36,[],h⟩=(K (.ret (e 4)) h):=by kernel_rfl
theorem F.jQ:EV (ah Tryz.f55) ⟨aE [a0,a1],36,[],h⟩ (RL Tryz.f55 K)=(af (bX .slice a0 h) fun a=>bV (EV F.bF.L0) ⟨(aa (aa (aa (aa (aE [a0,a1]) 4 (.int .i64 0)) 9 a0) 10 a) 11 (.int .i64 0)),36,[],h⟩ (F.bF.cR K)):=by kernel_rfl
theorem F.jz(hh:EV (ah Tryz.f55) ⟨aE [a0,a1],36,[],h⟩ (RL Tryz.f55 K)=true):Sem TP 55 [a0,a1] h K:=
 SB Tryz.func55 rfl (by decide) (by kernel_rfl) hh
theorem F.zc:EV (ah Tryz.f52) ⟨aE [a0,a1],9,[],h⟩ (RL Tryz.f52 K)=(af (eW a0) fun a=>aB TP 47 [a1,(.func 93 [] [(.ptr (Heap.next h) 0)])] (Heap.alloc h (.cells a)) (bK (fun b c=>af (lU .not b) fun d=>K (.ret d) c) (fun f g=>K (.panic f) g))):=by kernel_rfl
theorem F.xV(hh:EV (ah Tryz.f52) ⟨aE [a0,a1],9,[],h⟩ (RL Tryz.f52 K)=true):Sem TP 52 [a0,a1] h K:=
 SB Tryz.func52 rfl (by decide) (by kernel_rfl) hh
theorem F.DF:EV (ah Tryz.f99) ⟨aE [a0,a1],27,[],h⟩ (RL Tryz.f99 K)=(af (aG .lss a0 (.int .i64 1)) fun c=>ay c (K (.ret (.tuple [(.int .i64 0),(.int .i64 2)])) h) (af (aG .gtr a0 (.int .i64 64)) fun d=>ay d (K (.ret (.tuple [(.int .i64 0),(.int .i64 2)])) h) (af (aG .lss a1 (.int .i64 0)) fun f=>ay f (K (.ret (.tuple [(.int .i64 0),(.int .i64 2)])) h) (af (aG .gtr a1 (.int .i64 12)) fun g=>ay g (K (.ret (.tuple [(.int .i64 0),(.int .i64 2)])) h) (aB TP 108 [a0,a1,(.int .i64 4096)] h (bK (fun a b=>af (aG .lss a (.int .i64 0)) fun i=>ay i (K (.ret (.tuple [(.int .i64 0),(.int .i64 5)])) b) (K (.ret (.tuple [a,(.int .i64 0)])) b)) (fun j k=>K (.panic j) k))))))):=by kernel_rfl
theorem F.BN(hh:EV (ah Tryz.f99) ⟨aE [a0,a1],27,[],h⟩ (RL Tryz.f99 K)=true):Sem TP 99 [a0,a1] h K:=
 SB Tryz.func99 rfl (by decide) (by kernel_rfl) hh
noncomputable def F.fS.L0:=partOf (ah Tryz.f115) [1,1,0,1,0,0]
noncomputable def F.fS.cR(K:Out->Heap->Bool):=(aX 0 (cQ false (EV (partOf (ah Tryz.f115) [1,1,1])) (RL Tryz.f115 K)))
theorem F.fS.aT:EV F.fS.L0 ⟨e,72,[],h⟩ J=(af (bT 2 (e 3)) fun g=>af (ag none g h) fun i=>af (bX .slice i h) fun j=>af (aG .lss (e 5) j) fun k=>let Q1:=(aa (aa (aa (aa (aa e 27 (e 5)) 28 g) 29 i) 30 j) 31 k);ay k (af (bT 2 (e 3)) fun l=>af (ag none l h) fun m=>af (dN 1 m (e 5)) fun n=>af (ag none n h) fun o=>af (bX .slice o h) fun p=>af (bT 1 (e 3)) fun q=>af (ag none q h) fun r=>af (qF (.int .i64) p r) fun d=>let Q2:=(aa (aa (aa (aa (aa (aa (aa (aa (aa (aa Q1 34 l) 35 m) 36 (e 5)) 37 n) 38 o) 39 p) 40 q) 41 r) 42 d) 43 d);ay d (J .ret ⟨(aa (aa (aa (aa (aa (aa (aa (aa (aa (aa (aa (aa (aa (aa (aa (aa (aa (aa (aa (aa (aa (aa (aa (aa (aa (aa (aa (aa (aa (aa (aa (aa (aa (aa (aa (aa (aa (aa (aa (aa (aa Q2 43 (.bool true)) 44 bM) 43 (.bool true)) 45 bM) 43 (.bool true)) 46 bM) 43 (.bool true)) 47 bM) 43 (.bool true)) 48 bM) 43 (.bool true)) 49 bM) 43 (.bool true)) 50 bM) 43 (.bool true)) 51 bM) 52 (.bool true)) 53 (.bool true)) 53 (.bool true)) 54 bM) 53 (.bool true)) 55 bM) 53 (.bool true)) 56 bM) 57 bM) 58 bM) 59 bM) 60 bM) 61 bM) 62 bM) 63 bM) 64 bM) 65 bM) 66 bM) 67 bM) 68 bM) 69 bM) 53 (.bool true)) 70 bM) 71 (.bool true)) 4 (.bool false)),72,[],h⟩) (af (bT 2 (e 3)) fun s=>af (ag none s h) fun t=>af (dN 1 t (e 5)) fun u=>af (ag none u h) fun v=>aB TP 125 [(e 0),v] h (bK (fun w a=>af (lU .not w) fun b=>let Q3:=(aa (aa (aa (aa (aa (aa (aa (aa (aa (aa (aa (aa (aa (aa (aa (aa (aa (aa Q2 43 (.bool false)) 44 (e 0)) 43 (.bool false)) 45 s) 43 (.bool false)) 46 t) 43 (.bool false)) 47 (e 5)) 43 (.bool false)) 48 u) 43 (.bool false)) 49 v) 43 (.bool false)) 50 w) 43 (.bool false)) 51 b) 52 b) 53 b);ay b (J .ret ⟨(aa (aa (aa (aa (aa (aa (aa (aa (aa (aa (aa (aa (aa (aa (aa (aa (aa (aa (aa (aa (aa (aa (aa Q3 53 (.bool true)) 54 bM) 53 (.bool true)) 55 bM) 53 (.bool true)) 56 bM) 57 bM) 58 bM) 59 bM) 60 bM) 61 bM) 62 bM) 63 bM) 64 bM) 65 bM) 66 bM) 67 bM) 68 bM) 69 bM) 53 (.bool true)) 70 bM) 71 (.bool true)) 4 (.bool false)),72,[],a⟩) (af (aG .gtr (e 5) (.int .i64 0)) fun f=>let Q4:=(aa (aa (aa (aa (aa (aa Q3 53 (.bool false)) 54 (e 5)) 53 (.bool false)) 55 f) 53 (.bool false)) 56 f);ay f (af (bT 2 (e 3)) fun x=>af (ag none x a) fun y=>af (aG .sub (e 5) (.int .i64 1)) fun z=>af (dN 1 y z) fun A=>af (ag none A a) fun B=>af (bT 2 (e 3)) fun C=>af (ag none C a) fun D=>af (dN 1 D (e 5)) fun E=>af (ag none E a) fun G=>aB TP 156 [B,G] a (bK (fun I L=>af (lU .not I) fun c=>let Q5:=(aa (aa (aa (aa (aa (aa (aa (aa (aa (aa (aa (aa (aa (aa (aa (aa (aa (aa (aa (aa (aa (aa (aa (aa (aa (aa (aa (aa (aa Q4 56 (.bool true)) 57 x) 56 (.bool true)) 58 y) 56 (.bool true)) 59 (e 5)) 56 (.bool true)) 60 z) 56 (.bool true)) 61 A) 56 (.bool true)) 62 B) 56 (.bool true)) 63 C) 56 (.bool true)) 64 D) 56 (.bool true)) 65 (e 5)) 56 (.bool true)) 66 E) 56 (.bool true)) 67 G) 56 (.bool true)) 68 I) 56 (.bool true)) 69 c) 53 (.bool false)) 70 c) 71 c);ay c (J .ret ⟨(aa Q5 4 (.bool false)),72,[],L⟩) (af (aG .add (e 5) (.int .i64 1)) fun M=>J .normal ⟨(aa (aa (aa Q5 32 (e 5)) 33 M) 5 M),72,[],L⟩)) (fun _ _=>false))) (af (aG .add (e 5) (.int .i64 1)) fun N=>J .normal ⟨(aa (aa (aa (aa (aa (aa (aa (aa (aa (aa (aa (aa (aa (aa (aa (aa (aa (aa (aa (aa (aa (aa (aa (aa (aa (aa (aa (aa (aa (aa (aa (aa Q4 56 (.bool false)) 57 bM) 56 (.bool false)) 58 bM) 56 (.bool false)) 59 bM) 56 (.bool false)) 60 bM) 56 (.bool false)) 61 bM) 56 (.bool false)) 62 bM) 56 (.bool false)) 63 bM) 56 (.bool false)) 64 bM) 56 (.bool false)) 65 bM) 56 (.bool false)) 66 bM) 56 (.bool false)) 67 bM) 56 (.bool false)) 68 bM) 56 (.bool false)) 69 bM) 53 (.bool false)) 70 (.bool false)) 71 (.bool false)) 32 (e 5)) 33 N) 5 N),72,[],a⟩))) (fun _ _=>false)))) (J (.exit 0) ⟨Q1,72,[],h⟩)):=by kernel_rfl
theorem F.fS.aF:F.fS.cR K (.exit 0) ⟨e,72,[],h⟩=(K (.ret (.bool true)) h):=by kernel_rfl
theorem F.fS.bz:F.fS.cR K .ret ⟨e,72,[],h⟩=(K (.ret (e 4)) h):=by kernel_rfl
theorem F.HQ:EV (ah Tryz.f115) ⟨aE [a0,a1],72,[],h⟩ (RL Tryz.f115 K)=(af (eW a1) fun p=>af (bT 0 (.ptr (Heap.next h) 0)) fun q=>af (ag none q (Heap.alloc h (.cells p))) fun r=>aB TP 153 [r] (Heap.alloc h (.cells p)) (bK (fun s c=>af (lU .not s) fun m=>ay m (K (.ret (.bool false)) c) (af (bT 1 (.ptr (Heap.next h) 0)) fun t=>af (ag none t c) fun u=>af (aG .lss u (.int .i64 0)) fun a=>ay a (K (.ret (.bool false)) c) (af (bT 1 (.ptr (Heap.next h) 0)) fun f=>af (ag none f c) fun g=>af (aG .gtr g (.int .i64 12)) fun b=>ay b (K (.ret (.bool false)) c) (af (bT 1 (.ptr (Heap.next h) 0)) fun i=>af (ag none i c) fun j=>aB TP 155 [a0,j] c (bK (fun k l=>af (aG .gtr k (.int .i64 4096)) fun d=>ay d (K (.ret (.bool false)) l) (bV (EV F.fS.L0) ⟨(aa (aa (aa (aa (aa (aa (aa (aa (aa (aa (aa (aa (aa (aa (aa (aa (aa (aa (aa (aa (aa (aa (aa (aa (aa (aa (aa (aa (aa (aa (aa (aa (aa (aa (aa (aE [a0,a1]) 3 (.ptr (Heap.next h) 0)) 4 (.bool false)) 6 q) 7 r) 8 s) 9 m) 10 m) 10 (.bool false)) 11 t) 10 (.bool false)) 12 u) 10 (.bool false)) 13 a) 14 a) 15 a) 15 (.bool false)) 16 f) 15 (.bool false)) 17 g) 15 (.bool false)) 18 b) 19 b) 20 b) 20 (.bool false)) 21 a0) 20 (.bool false)) 22 i) 20 (.bool false)) 23 j) 20 (.bool false)) 24 k) 20 (.bool false)) 25 d) 26 d) 5 (.int .i64 0)),72,[],l⟩ (F.fS.cR K))) (fun n o=>K (.panic n) o)))))) (fun v w=>K (.panic v) w))):=by kernel_rfl
theorem F.Fv(hh:EV (ah Tryz.f115) ⟨aE [a0,a1],72,[],h⟩ (RL Tryz.f115 K)=true):Sem TP 115 [a0,a1] h K:=
 SB Tryz.func115 rfl (by decide) (by kernel_rfl) hh
noncomputable def F.fM.L0:=partOf (ah Tryz.f156) [1,0,1,0,0]
noncomputable def F.fM.cR(K:Out->Heap->Bool):=(aX 0 (cQ false (EV (partOf (ah Tryz.f156) [1,1])) (RL Tryz.f156 K)))
theorem F.fM.aT:EV F.fM.L0 ⟨e,30,[],h⟩ J=(af (bX .slice (e 0) h) fun d=>af (aG .lss (e 5) d) fun f=>let Q1:=(aa (aa (aa (aa e 6 (e 5)) 7 (e 0)) 8 d) 9 f);ay f (af (dN 1 (e 0) (e 5)) fun g=>af (ag none g h) fun i=>af (dN 1 (e 1) (e 5)) fun j=>af (ag none j h) fun k=>af (qF (.int .i64) i k) fun l=>let Q2:=(aa (aa (aa (aa (aa (aa (aa (aa (aa Q1 12 (e 0)) 13 (e 5)) 14 g) 15 i) 16 (e 1)) 17 (e 5)) 18 j) 19 k) 20 l);ay l (af (dN 1 (e 0) (e 5)) fun m=>af (ag none m h) fun n=>af (dN 1 (e 1) (e 5)) fun o=>af (ag none o h) fun a=>af (aG .lss n a) fun b=>J .ret ⟨(aa (aa (aa (aa (aa (aa (aa (aa (aa (aa Q2 21 (e 0)) 22 (e 5)) 23 m) 24 n) 25 (e 1)) 26 (e 5)) 27 o) 28 a) 29 b) 4 b),30,[],h⟩) (af (aG .add (e 5) (.int .i64 1)) fun c=>J .normal ⟨(aa (aa (aa Q2 10 (e 5)) 11 c) 5 c),30,[],h⟩)) (J (.exit 0) ⟨Q1,30,[],h⟩)):=by kernel_rfl
theorem F.fM.aF:F.fM.cR K (.exit 0) ⟨e,30,[],h⟩=(K (.ret (.bool false)) h):=by kernel_rfl
theorem F.fM.bz:F.fM.cR K .ret ⟨e,30,[],h⟩=(K (.ret (e 4)) h):=by kernel_rfl
theorem F.Fw:EV (ah Tryz.f156) ⟨aE [a0,a1],30,[],h⟩ (RL Tryz.f156 K)=(bV (EV F.fM.L0) ⟨(aa (aa (aE [a0,a1]) 4 (.bool false)) 5 (.int .i64 0)),30,[],h⟩ (F.fM.cR K)):=by kernel_rfl
theorem F.DG(hh:EV (ah Tryz.f156) ⟨aE [a0,a1],30,[],h⟩ (RL Tryz.f156 K)=true):Sem TP 156 [a0,a1] h K:=
 SB Tryz.func156 rfl (by decide) (by kernel_rfl) hh
noncomputable def F.eu.L0:=partOf (ah Tryz.f108) [1,1,0,1,0,0]
noncomputable def F.eu.cR(K:Out->Heap->Bool):=(aX 0 (cQ false (EV (partOf (ah Tryz.f108) [1,1,1])) (RL Tryz.f108 K)))
theorem F.eu.aT:EV F.eu.L0 ⟨e,19,[],h⟩ J=(af (aG .lss (e 9) (e 8)) fun b=>ay b (af (aG .mul (e 7) (e 0)) fun a=>af (aG .gtr a (e 2)) fun c=>let Q1:=(aa (aa (aa (aa (aa (aa (aa (aa e 10 b) 11 (e 7)) 12 (e 0)) 13 a) 7 a) 14 a) 15 (e 2)) 16 c);ay c (J .ret ⟨(aa Q1 6 (.int .i64 (-1))),19,[],h⟩) (af (aG .add (e 9) (.int .i64 1)) fun d=>J .normal ⟨(aa (aa Q1 17 d) 9 d),19,[],h⟩)) (J (.exit 0) ⟨(aa e 10 b),19,[],h⟩)):=by kernel_rfl
theorem F.eu.aF:F.eu.cR K (.exit 0) ⟨e,19,[],h⟩=(K (.ret (e 7)) h):=by kernel_rfl
theorem F.eu.bz:F.eu.cR K .ret ⟨e,19,[],h⟩=(K (.ret (e 6)) h):=by kernel_rfl
theorem F.DH:EV (ah Tryz.f108) ⟨aE [a0,a1,a2],19,[],h⟩ (RL Tryz.f108 K)=(bV (EV F.eu.L0) ⟨(aa (aa (aa (aa (aE [a0,a1,a2]) 6 (.int .i64 0)) 7 (.int .i64 1)) 8 a1) 9 (.int .i64 0)),19,[],h⟩ (F.eu.cR K)):=by kernel_rfl
theorem F.BO(hh:EV (ah Tryz.f108) ⟨aE [a0,a1,a2],19,[],h⟩ (RL Tryz.f108 K)=true):Sem TP 108 [a0,a1,a2] h K:=
 SB Tryz.func108 rfl (by decide) (by kernel_rfl) hh
noncomputable def F.dr.L0:=partOf (ah Tryz.f109) [1,0,1,0,0]
noncomputable def F.dr.cR(K:Out->Heap->Bool):=(aX 0 (cQ false (EV (partOf (ah Tryz.f109) [1,1])) (RL Tryz.f109 K)))
theorem F.dr.aT:EV F.dr.L0 ⟨e,42,[],h⟩ J=(af (aG .lss (e 10) (e 9)) fun w=>let Q1:=(aa e 11 w);ay w (af (dN 1 (e 8) (e 10)) fun x=>af (ag none x h) fun b=>af (bX .slice b h) fun y=>af (bT 1 (e 3)) fun z=>af (ag none z h) fun A=>af (qF (.int .i64) y A) fun f=>let Q2:=(aa (aa (aa (aa (aa (aa (aa (aa (aa (aa (aa Q1 12 (e 10)) 13 x) 14 b) 5 (e 10)) 6 b) 15 b) 16 y) 17 z) 18 A) 19 f) 20 f);ay f (J .ret ⟨(aa (aa (aa (aa (aa (aa (aa (aa (aa (aa (aa (aa (aa (aa (aa (aa (aa (aa (aa (aa (aa (aa (aa (aa (aa (aa (aa (aa (aa Q2 20 (.bool true)) 21 bM) 20 (.bool true)) 22 bM) 20 (.bool true)) 23 bM) 20 (.bool true)) 24 bM) 25 (.bool true)) 26 (.bool true)) 26 (.bool true)) 27 bM) 26 (.bool true)) 28 bM) 26 (.bool true)) 29 bM) 30 bM) 31 bM) 32 bM) 33 bM) 34 bM) 35 bM) 36 bM) 37 bM) 38 bM) 26 (.bool true)) 39 bM) 40 (.bool true)) 4 (.bool false)),42,[],h⟩) (aB TP 52 [(e 0),b] h (bK (fun n a=>af (lU .not n) fun c=>let Q3:=(aa (aa (aa (aa (aa (aa (aa (aa (aa (aa Q2 20 (.bool false)) 21 (e 0)) 20 (.bool false)) 22 b) 20 (.bool false)) 23 n) 20 (.bool false)) 24 c) 25 c) 26 c);ay c (J .ret ⟨(aa (aa (aa (aa (aa (aa (aa (aa (aa (aa (aa (aa (aa (aa (aa (aa (aa (aa (aa Q3 26 (.bool true)) 27 bM) 26 (.bool true)) 28 bM) 26 (.bool true)) 29 bM) 30 bM) 31 bM) 32 bM) 33 bM) 34 bM) 35 bM) 36 bM) 37 bM) 38 bM) 26 (.bool true)) 39 bM) 40 (.bool true)) 4 (.bool false)),42,[],a⟩) (af (aG .gtr (e 10) (.int .i64 0)) fun g=>let Q4:=(aa (aa (aa (aa (aa (aa Q3 26 (.bool false)) 27 (e 10)) 26 (.bool false)) 28 g) 26 (.bool false)) 29 g);ay g (af (bT 2 (e 3)) fun i=>af (ag none i a) fun j=>af (aG .sub (e 10) (.int .i64 1)) fun k=>af (dN 1 j k) fun l=>af (ag none l a) fun m=>aB TP 55 [m,b] a (bK (fun o p=>af (aG .geq o (.int .i64 0)) fun d=>let Q5:=(aa (aa (aa (aa (aa (aa (aa (aa (aa (aa (aa (aa (aa (aa (aa (aa (aa (aa (aa (aa (aa Q4 29 (.bool true)) 30 i) 29 (.bool true)) 31 j) 29 (.bool true)) 32 (e 10)) 29 (.bool true)) 33 k) 29 (.bool true)) 34 l) 29 (.bool true)) 35 m) 29 (.bool true)) 36 b) 29 (.bool true)) 37 o) 29 (.bool true)) 38 d) 26 (.bool false)) 39 d) 40 d);ay d (J .ret ⟨(aa Q5 4 (.bool false)),42,[],p⟩) (af (aG .add (e 10) (.int .i64 1)) fun q=>J .normal ⟨(aa (aa Q5 41 q) 10 q),42,[],p⟩)) (fun s t=>J (.panic s) ⟨(aa (aa (aa (aa (aa (aa (aa (aa (aa (aa (aa (aa (aa (aa (aa Q4 29 (.bool true)) 30 i) 29 (.bool true)) 31 j) 29 (.bool true)) 32 (e 10)) 29 (.bool true)) 33 k) 29 (.bool true)) 34 l) 29 (.bool true)) 35 m) 29 (.bool true)) 36 b) 29 (.bool true)),42,[],t⟩))) (af (aG .add (e 10) (.int .i64 1)) fun r=>J .normal ⟨(aa (aa (aa (aa (aa (aa (aa (aa (aa (aa (aa (aa (aa (aa (aa (aa (aa (aa (aa (aa (aa (aa (aa Q4 29 (.bool false)) 30 bM) 29 (.bool false)) 31 bM) 29 (.bool false)) 32 bM) 29 (.bool false)) 33 bM) 29 (.bool false)) 34 bM) 29 (.bool false)) 35 bM) 29 (.bool false)) 36 bM) 29 (.bool false)) 37 bM) 29 (.bool false)) 38 bM) 26 (.bool false)) 39 (.bool false)) 40 (.bool false)) 41 r) 10 r),42,[],a⟩))) (fun u v=>J (.panic u) ⟨(aa (aa (aa (aa (aa Q2 20 (.bool false)) 21 (e 0)) 20 (.bool false)) 22 b) 20 (.bool false)),42,[],v⟩)))) (J (.exit 0) ⟨Q1,42,[],h⟩)):=by kernel_rfl
theorem F.dr.aF:F.dr.cR K (.exit 0) ⟨e,42,[],h⟩=(K (.ret (.bool true)) h):=by kernel_rfl
theorem F.dr.bz:F.dr.cR K .ret ⟨e,42,[],h⟩=(K (.ret (e 4)) h):=by kernel_rfl
theorem F.BP:EV (ah Tryz.f109) ⟨aE [a0,a1],42,[],h⟩ (RL Tryz.f109 K)=(af (eW a1) fun a=>af (bT 2 (.ptr (Heap.next h) 0)) fun b=>af (ag none b (Heap.alloc h (.cells a))) fun c=>af (bX .slice c (Heap.alloc h (.cells a))) fun d=>bV (EV F.dr.L0) ⟨(aa (aa (aa (aa (aa (aa (aE [a0,a1]) 3 (.ptr (Heap.next h) 0)) 4 (.bool false)) 7 b) 8 c) 9 d) 10 (.int .i64 0)),42,[],(Heap.alloc h (.cells a))⟩ (F.dr.cR K)):=by kernel_rfl
theorem F.Ag(hh:EV (ah Tryz.f109) ⟨aE [a0,a1],42,[],h⟩ (RL Tryz.f109 K)=true):Sem TP 109 [a0,a1] h K:=
 SB Tryz.func109 rfl (by decide) (by kernel_rfl) hh
theorem F.jL:EV (ah Tryz.f110) ⟨aE [a0,a1],9,[],h⟩ (RL Tryz.f110 K)=(aB TP 76 [a0,a1] h (bK (fun a b=>af (aG .geq a (.int .i64 0)) fun c=>K (.ret c) b) (fun d f=>K (.panic d) f))):=by kernel_rfl
theorem F.jA(hh:EV (ah Tryz.f110) ⟨aE [a0,a1],9,[],h⟩ (RL Tryz.f110 K)=true):Sem TP 110 [a0,a1] h K:=
 SB Tryz.func110 rfl (by decide) (by kernel_rfl) hh
theorem F.Ah:EV (ah Tryz.f111) ⟨aE [a0,a1],9,[],h⟩ (RL Tryz.f111 K)=(af (eW a0) fun a=>af (bT 0 (.ptr (Heap.next h) 0)) fun b=>af (ag none b (Heap.alloc h (.cells a))) fun c=>af (bT 0 a1) fun d=>af (ag none d (Heap.alloc h (.cells a))) fun f=>af (jK .string c f) fun g=>K (.ret g) (Heap.alloc h (.cells a))):=by kernel_rfl
theorem F.ze(hh:EV (ah Tryz.f111) ⟨aE [a0,a1],9,[],h⟩ (RL Tryz.f111 K)=true):Sem TP 111 [a0,a1] h K:=
 SB Tryz.func111 rfl (by decide) (by kernel_rfl) hh
noncomputable def F.bw.L0:=partOf (ah Tryz.f76) [1,0,1,0,0]
noncomputable def F.bw.cR(K:Out->Heap->Bool):=(aX 0 (cQ false (EV (partOf (ah Tryz.f76) [1,1])) (RL Tryz.f76 K)))
theorem F.bw.aT:EV F.bw.L0 ⟨e,19,[],h⟩ J=(af (aG .lss (e 8) (e 7)) fun c=>let Q1:=(aa e 9 c);ay c (af (dN 3 (e 0) (e 8)) fun a=>af (ag (some 3) a h) fun b=>qt (e 1) fun f9 SK Tx=>aB TP f9 (SK++([b]++Tx)) h (bK (fun d f=>let Q2:=(aa (aa (aa (aa (aa (aa (aa (aa Q1 10 (e 8)) 5 (e 8)) 11 (e 1)) 12 (e 0)) 13 (e 8)) 14 a) 15 b) 16 d);ay d (J .ret ⟨(aa (aa Q2 17 (e 8)) 4 (e 8)),19,[],f⟩) (af (aG .add (e 8) (.int .i64 1)) fun g=>J .normal ⟨(aa (aa Q2 18 g) 8 g),19,[],f⟩)) (fun i j=>J (.panic i) ⟨(aa (aa (aa (aa (aa (aa (aa Q1 10 (e 8)) 5 (e 8)) 11 (e 1)) 12 (e 0)) 13 (e 8)) 14 a) 15 b),19,[],j⟩))) (J (.exit 0) ⟨Q1,19,[],h⟩)):=by kernel_rfl
theorem F.bw.aF:F.bw.cR K (.exit 0) ⟨e,19,[],h⟩=(K (.ret (.int .i64 (-1))) h):=by kernel_rfl
theorem F.bw.bz:F.bw.cR K .ret ⟨e,19,[],h⟩=(K (.ret (e 4)) h):=by kernel_rfl
theorem F.ku:EV (ah Tryz.f76) ⟨aE [a0,a1],19,[],h⟩ (RL Tryz.f76 K)=(af (bX .slice a0 h) fun a=>bV (EV F.bw.L0) ⟨(aa (aa (aa (aa (aE [a0,a1]) 4 (.int .i64 0)) 6 a0) 7 a) 8 (.int .i64 0)),19,[],h⟩ (F.bw.cR K)):=by kernel_rfl
theorem F.jY(hh:EV (ah Tryz.f76) ⟨aE [a0,a1],19,[],h⟩ (RL Tryz.f76 K)=true):Sem TP 76 [a0,a1] h K:=
 SB Tryz.func76 rfl (by decide) (by kernel_rfl) hh
theorem F.BQ:EV (ah Tryz.f94) ⟨aE [a0,a1,a2],15,[],h⟩ (RL Tryz.f94 K)=(af (eW a0) fun a=>af (bT 0 (.ptr (Heap.next h) 0)) fun b=>af (ag none b (Heap.alloc h (.cells a))) fun c=>af (ag none a1 (Heap.alloc h (.cells a))) fun d=>af (jK .string c d) fun f=>ay f (af (bT 1 (.ptr (Heap.next h) 0)) fun g=>af (ag none g (Heap.alloc h (.cells a))) fun i=>af (ag none a2 (Heap.alloc h (.cells a))) fun j=>af (jK (.int .i64) i j) fun k=>K (.ret k) (Heap.alloc h (.cells a))) (K (.ret (.bool false)) (Heap.alloc h (.cells a)))):=by kernel_rfl
theorem F.Ai(hh:EV (ah Tryz.f94) ⟨aE [a0,a1,a2],15,[],h⟩ (RL Tryz.f94 K)=true):Sem TP 94 [a0,a1,a2] h K:=
 SB Tryz.func94 rfl (by decide) (by kernel_rfl) hh
theorem F.xW:EV (ah Tryz.f95) ⟨aE [a0,a1],20,[],h⟩ (RL Tryz.f95 K)=(aB TP 136 [a0] h (bK (fun c d=>aB TP 136 [a1] d (bK (fun b a=>ay c (ay b (K (.ret (.int .i64 0)) a) (K (.ret (.int .i64 (-1))) a)) (ay b (K (.ret (.int .i64 1)) a) (af (aG .lss a0 a1) fun f=>ay f (K (.ret (.int .i64 (-1))) a) (af (aG .gtr a0 a1) fun g=>ay g (K (.ret (.int .i64 1)) a) (K (.ret (.int .i64 0)) a))))) (fun i j=>K (.panic i) j))) (fun k l=>K (.panic k) l))):=by kernel_rfl
theorem F.wF(hh:EV (ah Tryz.f95) ⟨aE [a0,a1],20,[],h⟩ (RL Tryz.f95 K)=true):Sem TP 95 [a0,a1] h K:=
 SB Tryz.func95 rfl (by decide) (by kernel_rfl) hh
theorem F.wG:EV (ah Tryz.f93) ⟨aE [a0,a1],11,[],h⟩ (RL Tryz.f93 K)=(af (aG .lss a0 (.int .i64 0)) fun a=>ay a (K (.ret (.bool true)) h) (af (ag none a1 h) fun b=>af (aG .geq a0 b) fun c=>K (.ret c) h)):=by kernel_rfl
theorem F.uz(hh:EV (ah Tryz.f93) ⟨aE [a0,a1],11,[],h⟩ (RL Tryz.f93 K)=true):Sem TP 93 [a0,a1] h K:=
 SB Tryz.func93 rfl (by decide) (by kernel_rfl) hh
theorem F.Aj:EV (ah Tryz.f136) ⟨aE [a0],6,[],h⟩ (RL Tryz.f136 K)=(af (qF (.int .i64) a0 a0) fun a=>K (.ret a) h):=by kernel_rfl
theorem F.zf(hh:EV (ah Tryz.f136) ⟨aE [a0],6,[],h⟩ (RL Tryz.f136 K)=true):Sem TP 136 [a0] h K:=
 SB Tryz.func136 rfl (by decide) (by kernel_rfl) hh
noncomputable def F.ic.L0:=partOf (ah Tryz.f125) [1,0,1,0,0]
noncomputable def F.ic.cR(K:Out->Heap->Bool):=(aX 0 (cQ false (EV (partOf (ah Tryz.f125) [1,1])) (RL Tryz.f125 K)))
theorem F.ic.aT:EV F.ic.L0 ⟨e,25,[],h⟩ J=(af (bX .slice (e 1) h) fun c=>af (aG .lss (e 5) c) fun d=>let Q1:=(aa (aa (aa (aa e 6 (e 5)) 7 (e 1)) 8 c) 9 d);ay d (af (dN 1 (e 1) (e 5)) fun f=>af (ag none f h) fun g=>af (aG .lss g (.int .i64 0)) fun a=>let Q2:=(aa (aa (aa (aa (aa (aa Q1 12 (e 1)) 13 (e 5)) 14 f) 15 g) 16 a) 17 a);ay a (J .ret ⟨(aa (aa (aa (aa (aa (aa (aa (aa (aa (aa (aa (aa (aa (aa Q2 17 (.bool true)) 18 bM) 17 (.bool true)) 19 bM) 17 (.bool true)) 20 bM) 17 (.bool true)) 21 bM) 17 (.bool true)) 22 bM) 17 (.bool true)) 23 bM) 24 (.bool true)) 4 (.bool false)),25,[],h⟩) (af (dN 1 (e 1) (e 5)) fun i=>af (ag none i h) fun j=>af (aG .geq j (e 0)) fun b=>let Q3:=(aa (aa (aa (aa (aa (aa (aa (aa (aa (aa (aa (aa (aa Q2 17 (.bool false)) 18 (e 1)) 17 (.bool false)) 19 (e 5)) 17 (.bool false)) 20 i) 17 (.bool false)) 21 j) 17 (.bool false)) 22 (e 0)) 17 (.bool false)) 23 b) 24 b);ay b (J .ret ⟨(aa Q3 4 (.bool false)),25,[],h⟩) (af (aG .add (e 5) (.int .i64 1)) fun k=>J .normal ⟨(aa (aa (aa Q3 10 (e 5)) 11 k) 5 k),25,[],h⟩))) (J (.exit 0) ⟨Q1,25,[],h⟩)):=by kernel_rfl
theorem F.ic.aF:F.ic.cR K (.exit 0) ⟨e,25,[],h⟩=(K (.ret (.bool true)) h):=by kernel_rfl
theorem F.ic.bz:F.ic.cR K .ret ⟨e,25,[],h⟩=(K (.ret (e 4)) h):=by kernel_rfl
theorem F.JA:EV (ah Tryz.f125) ⟨aE [a0,a1],25,[],h⟩ (RL Tryz.f125 K)=(bV (EV F.ic.L0) ⟨(aa (aa (aE [a0,a1]) 4 (.bool false)) 5 (.int .i64 0)),25,[],h⟩ (F.ic.cR K)):=by kernel_rfl
theorem F.HR(hh:EV (ah Tryz.f125) ⟨aE [a0,a1],25,[],h⟩ (RL Tryz.f125 K)=true):Sem TP 125 [a0,a1] h K:=
 SB Tryz.func125 rfl (by decide) (by kernel_rfl) hh
noncomputable def F.bW.L0:=partOf (ah Tryz.f91) [1,0,1,0,0]
noncomputable def F.bW.cR(K:Out->Heap->Bool):=(aX 0 (cQ false (EV (partOf (ah Tryz.f91) [1,1])) (RL Tryz.f91 K)))
theorem F.bW.aT:EV F.bW.L0 ⟨e,19,[],h⟩ J=(af (aG .lss (e 8) (e 7)) fun c=>let Q1:=(aa e 9 c);ay c (af (dN 1 (e 0) (e 8)) fun a=>af (ag none a h) fun b=>qt (e 1) fun f9 SK Tx=>aB TP f9 (SK++([b]++Tx)) h (bK (fun d f=>let Q2:=(aa (aa (aa (aa (aa (aa (aa (aa Q1 10 (e 8)) 5 (e 8)) 11 (e 1)) 12 (e 0)) 13 (e 8)) 14 a) 15 b) 16 d);ay d (J .ret ⟨(aa (aa Q2 17 (e 8)) 4 (e 8)),19,[],f⟩) (af (aG .add (e 8) (.int .i64 1)) fun g=>J .normal ⟨(aa (aa Q2 18 g) 8 g),19,[],f⟩)) (fun i j=>J (.panic i) ⟨(aa (aa (aa (aa (aa (aa (aa Q1 10 (e 8)) 5 (e 8)) 11 (e 1)) 12 (e 0)) 13 (e 8)) 14 a) 15 b),19,[],j⟩))) (J (.exit 0) ⟨Q1,19,[],h⟩)):=by kernel_rfl
theorem F.bW.aF:F.bW.cR K (.exit 0) ⟨e,19,[],h⟩=(K (.ret (.int .i64 (-1))) h):=by kernel_rfl
theorem F.bW.bz:F.bW.cR K .ret ⟨e,19,[],h⟩=(K (.ret (e 4)) h):=by kernel_rfl
theorem F.nJ:EV (ah Tryz.f91) ⟨aE [a0,a1],19,[],h⟩ (RL Tryz.f91 K)=(af (bX .slice a0 h) fun a=>bV (EV F.bW.L0) ⟨(aa (aa (aa (aa (aE [a0,a1]) 4 (.int .i64 0)) 6 a0) 7 a) 8 (.int .i64 0)),19,[],h⟩ (F.bW.cR K)):=by kernel_rfl
theorem F.nh(hh:EV (ah Tryz.f91) ⟨aE [a0,a1],19,[],h⟩ (RL Tryz.f91 K)=true):Sem TP 91 [a0,a1] h K:=
 SB Tryz.func91 rfl (by decide) (by kernel_rfl) hh
theorem F.mH:EV (ah Tryz.f47) ⟨aE [a0,a1],9,[],h⟩ (RL Tryz.f47 K)=(aB TP 91 [a0,a1] h (bK (fun a b=>af (aG .geq a (.int .i64 0)) fun c=>K (.ret c) b) (fun d f=>K (.panic d) f))):=by kernel_rfl
theorem F.mw(hh:EV (ah Tryz.f47) ⟨aE [a0,a1],9,[],h⟩ (RL Tryz.f47 K)=true):Sem TP 47 [a0,a1] h K:=
 SB Tryz.func47 rfl (by decide) (by kernel_rfl) hh
noncomputable def F.bR.L0:=partOf (ah Tryz.f32) [1,1,0,1,0,0]
noncomputable def F.bR.cR(K:Out->Heap->Bool):=(aX 0 (cQ false (EV (partOf (ah Tryz.f32) [1,1,1])) (RL Tryz.f32 K)))
noncomputable def F.bR.L1:=partOf (ah Tryz.f32) [1,1,0,1,0,0,1,0,0,1,0,1,0,0]
noncomputable def F.bR.jF(J:AX->St->Bool):=(aX 2 (cQ false (EV (partOf (ah Tryz.f32) [1,1,0,1,0,0,1,0,0,1,1])) (aX 1 (cQ false (EV (partOf (ah Tryz.f32) [1,1,0,1,0,0,1,1])) J))))
noncomputable def F.bR.L2:=partOf (ah Tryz.f32) [1,1,0,1,0,0,1,0,0,1,0,1,0,0,1,0,0,1,0,0]
noncomputable def F.bR.sY(J:AX->St->Bool):=(aX 4 (aX 3 (cQ false (EV (partOf (ah Tryz.f32) [1,1,0,1,0,0,1,0,0,1,0,1,0,0,1,1])) J)))
theorem F.bR.aT:EV F.bR.L0 ⟨e,42,[],h⟩ J=(af (aG .lss (e 6) (e 1)) fun a=>let Q1:=(aa (aa (aa e 12 (e 6)) 13 (e 1)) 14 a);ay a (bV (EV F.bR.L1) ⟨(aa (aa Q1 7 .ax) 8 (.int .i64 0)),42,[],h⟩ (F.bR.jF J)) (J (.exit 0) ⟨Q1,42,[],h⟩)):=by kernel_rfl
theorem F.bR.aF:F.bR.cR K (.exit 0) ⟨e,42,[],h⟩=(K (.ret (e 5)) h):=by kernel_rfl
theorem F.bR.dm:EV F.bR.L1 ⟨e,42,[],h⟩ J=(af (bX .slice (e 5) h) fun a=>af (aG .lss (e 8) a) fun b=>let Q1:=(aa (aa (aa (aa e 17 (e 8)) 18 (e 5)) 19 a) 20 b);ay b (bV (EV F.bR.L2) ⟨(aa Q1 9 (.int .i64 0)),42,[],h⟩ (F.bR.sY J)) (J (.exit 2) ⟨Q1,42,[],h⟩)):=by kernel_rfl
theorem F.bR.cq:F.bR.jF J (.exit 2) ⟨e,42,[],h⟩=(af (aG .add (e 6) (.int .i64 1)) fun a=>J .normal ⟨(aa (aa (aa (aa (aa e 40 (e 7)) 5 (e 7)) 15 (e 6)) 16 a) 6 a),42,[],h⟩):=by kernel_rfl
theorem F.bR.jf:EV F.bR.L2 ⟨e,42,[],h⟩ J=(af (aG .lss (e 9) (e 0)) fun l=>let Q1:=(aa (aa (aa e 23 (e 9)) 24 (e 0)) 25 l);ay l (af (fB [] [] []) fun m=>af (dN 1 (e 5) (e 8)) fun n=>af (ag none n (Heap.alloc h (.cells m))) fun o=>cX (bY 1 8 (.slice (Heap.next h) 0 0 1) o (Heap.alloc h (.cells m))) fun c a=>af (fB [(.int .i64 0)] [(0,1)] [(e 9)]) fun i=>cX (bY 1 8 c (.slice (Heap.next a) 0 1 1) (Heap.alloc a (.cells i))) fun d b=>af (fB [.ax] [(0,1)] [d]) fun j=>cX (bY 1 24 (e 7) (.slice (Heap.next b) 0 1 1) (Heap.alloc b (.cells j))) fun f k=>af (aG .add (e 9) (.int .i64 1)) fun g=>J .normal ⟨(aa (aa (aa (aa (aa (aa (aa (aa (aa (aa (aa (aa (aa (aa (aa (aa Q1 28 (e 7)) 29 (.slice (Heap.next h) 0 0 1)) 30 (e 5)) 31 (e 8)) 32 n) 33 o) 34 c) 35 (e 9)) 36 (.slice (Heap.next a) 0 1 1)) 37 d) 38 (.slice (Heap.next b) 0 1 1)) 39 f) 7 f) 26 (e 9)) 27 g) 9 g),42,[],k⟩) (J (.exit 4) ⟨Q1,42,[],h⟩)):=by kernel_rfl
theorem F.bR.fX:F.bR.sY J (.exit 4) ⟨e,42,[],h⟩=(af (aG .add (e 8) (.int .i64 1)) fun a=>J .normal ⟨(aa (aa (aa e 21 (e 8)) 22 a) 8 a),42,[],h⟩):=by kernel_rfl
theorem F.BR:EV (ah Tryz.f32) ⟨aE [a0,a1],42,[],h⟩ (RL Tryz.f32 K)=(af (fB [] [] []) fun a=>af (fB [.ax] [(0,1)] [(.slice (Heap.next h) 0 0 1)]) fun b=>bV (EV F.bR.L0) ⟨(aa (aa (aa (aa (aa (aE [a0,a1]) 4 .ax) 10 (.slice (Heap.next h) 0 0 1)) 11 (.slice (Heap.next (Heap.alloc h (.cells a))) 0 1 1)) 5 (.slice (Heap.next (Heap.alloc h (.cells a))) 0 1 1)) 6 (.int .i64 0)),42,[],(Heap.alloc (Heap.alloc h (.cells a)) (.cells b))⟩ (F.bR.cR K)):=by kernel_rfl
theorem F.Ak(hh:EV (ah Tryz.f32) ⟨aE [a0,a1],42,[],h⟩ (RL Tryz.f32 K)=true):Sem TP 32 [a0,a1] h K:=
 SB Tryz.func32 rfl (by decide) (by kernel_rfl) hh
noncomputable def F.gW.L0:=partOf (ah Tryz.f25) [1,1,0,1,0,0]
noncomputable def F.gW.cR(K:Out->Heap->Bool):=(aX 0 (cQ false (EV (partOf (ah Tryz.f25) [1,1,1])) (RL Tryz.f25 K)))
theorem F.gW.aT:EV F.gW.L0 ⟨e,41,[],h⟩ J=(af (bT 1 (e 1)) fun L=>af (ag none L h) fun M=>af (bX .slice M h) fun N=>af (aG .lss (e 4) N) fun O=>let Q1:=(aa (aa (aa (aa (aa e 8 (e 4)) 9 L) 10 M) 11 N) 12 O);ay O (af (bT 1 (e 3)) fun y=>af (ag none y h) fun b=>af (bT 1 (e 1)) fun c=>af (ag none c h) fun d=>af (dN 3 d (e 4)) fun m=>af (bT 0 m) fun f=>af (ag none f h) fun g=>af (bT 1 (e 1)) fun i=>af (ag none i h) fun j=>af (dN 3 j (e 4)) fun n=>af (bT 1 n) fun k=>af (ag none k h) fun l=>af (bT 1 (e 1)) fun o=>af (ag none o h) fun p=>af (dN 3 p (e 4)) fun q=>af (bT 2 q) fun r=>af (ag none r h) fun s=>aB TP 72 [s] h (bK (fun t a=>if ((af (ag none k a) fun z=>AV.beq z l)&&((af (ag none i a) fun A=>AV.beq A j)&&((af (ag none f a) fun B=>AV.beq B g)&&((af (ag none c a) fun C=>AV.beq C d)&&((af (ag none y a) fun D=>AV.beq D b)&&true)))))=true then (af (iD [(.str []),(.int .i64 0),.ax] [(0,1),(1,1),(2,1)] [g,l,t]) fun u=>af (fB [(.str []),(.int .i64 0),.ax] [(0,3)] [u]) fun E=>cX (bY 3 48 b (.slice (Heap.next a) 0 1 3) (Heap.alloc a (.cells E))) fun v G=>af (bT 1 (e 3)) fun w=>af (bf 1 w v G) fun I=>af (aG .add (e 4) (.int .i64 1)) fun x=>J .normal ⟨(aa (aa (aa (aa (aa (aa (aa (aa (aa (aa (aa (aa (aa (aa (aa (aa (aa (aa (aa (aa (aa (aa (aa (aa (aa (aa (aa (aa Q1 15 y) 16 b) 17 c) 18 d) 19 (e 4)) 20 m) 21 f) 22 g) 23 i) 24 j) 25 (e 4)) 26 n) 27 k) 28 l) 29 o) 30 p) 31 (e 4)) 32 q) 33 r) 34 s) 35 t) 36 u) 37 (.slice (Heap.next a) 0 1 3)) 38 v) 39 w) 13 (e 4)) 14 x) 4 x),41,[],I⟩) else false) (fun _ _=>false))) (J (.exit 0) ⟨Q1,41,[],h⟩)):=by kernel_rfl
theorem F.gW.aF:F.gW.cR K (.exit 0) ⟨e,41,[],h⟩=(af (ag (some 2) (e 3) h) fun a=>af (bf 2 (e 2) a h) fun b=>af (dG TP ⟨(aa e 40 a),41,[],b⟩ Tryz.f25.results.toList) fun c=>K (.ret (oneOf c)) b):=by kernel_rfl
theorem F.Fx:EV (ah Tryz.f25) ⟨aE [a0],41,[],h⟩ (RL Tryz.f25 K)=(af (eW a0) fun a=>af (bT 0 (.ptr (Heap.next h) 0)) fun b=>af (ag none b (Heap.alloc (Heap.alloc h (.cells a)) (.cells [(.int .i64 0),.ax]))) fun c=>af (iD [(.int .i64 0),.ax] [(0,1)] [c]) fun d=>af (bf 2 (.ptr (Heap.next (Heap.alloc (Heap.alloc h (.cells a)) (.cells [(.int .i64 0),.ax]))) 0) d (Heap.alloc (Heap.alloc (Heap.alloc h (.cells a)) (.cells [(.int .i64 0),.ax])) (.cells [(.int .i64 0),.ax]))) fun f=>bV (EV F.gW.L0) ⟨(aa (aa (aa (aa (aa (aa (aa (aE [a0]) 1 (.ptr (Heap.next h) 0)) 2 (.ptr (Heap.next (Heap.alloc h (.cells a))) 0)) 5 b) 6 c) 7 d) 3 (.ptr (Heap.next (Heap.alloc (Heap.alloc h (.cells a)) (.cells [(.int .i64 0),.ax]))) 0)) 4 (.int .i64 0)),41,[],f⟩ (F.gW.cR K)):=by kernel_rfl
theorem F.DI(hh:EV (ah Tryz.f25) ⟨aE [a0],41,[],h⟩ (RL Tryz.f25 K)=true):Sem TP 25 [a0] h K:=
 SB Tryz.func25 rfl (by decide) (by kernel_rfl) hh
noncomputable def F.fJ.L0:=partOf (ah Tryz.f72) [1,1,0,1,0,0]
noncomputable def F.fJ.cR(K:Out->Heap->Bool):=(aX 0 (cQ false (EV (partOf (ah Tryz.f72) [1,1,1])) (RL Tryz.f72 K)))
theorem F.fJ.aT:EV F.fJ.L0 ⟨e,21,[],h⟩ J=(af (bX .slice (e 0) h) fun c=>af (aG .lss (e 4) c) fun d=>let Q1:=(aa (aa (aa (aa e 5 (e 4)) 6 (e 0)) 7 c) 8 d);ay d (af (fB [] [] []) fun f=>af (dN 1 (e 0) (e 4)) fun g=>af (ag none g (Heap.alloc h (.cells f))) fun i=>cX (bY 1 8 (.slice (Heap.next h) 0 0 1) i (Heap.alloc h (.cells f))) fun j b=>af (fB [.ax] [(0,1)] [j]) fun l=>cX (bY 1 24 (e 3) (.slice (Heap.next b) 0 1 1) (Heap.alloc b (.cells l))) fun k m=>af (aG .add (e 4) (.int .i64 1)) fun a=>J .normal ⟨(aa (aa (aa (aa (aa (aa (aa (aa (aa (aa (aa (aa (aa Q1 11 (e 3)) 12 (.slice (Heap.next h) 0 0 1)) 13 (e 0)) 14 (e 4)) 15 g) 16 i) 17 j) 18 (.slice (Heap.next b) 0 1 1)) 19 k) 3 k) 9 (e 4)) 10 a) 4 a),21,[],m⟩) (J (.exit 0) ⟨Q1,21,[],h⟩)):=by kernel_rfl
theorem F.fJ.aF:F.fJ.cR K (.exit 0) ⟨e,21,[],h⟩=(K (.ret (e 3)) h):=by kernel_rfl
theorem F.BS:EV (ah Tryz.f72) ⟨aE [a0],21,[],h⟩ (RL Tryz.f72 K)=(bV (EV F.fJ.L0) ⟨(aa (aa (aa (aE [a0]) 2 .ax) 3 .ax) 4 (.int .i64 0)),21,[],h⟩ (F.fJ.cR K)):=by kernel_rfl
theorem F.Al(hh:EV (ah Tryz.f72) ⟨aE [a0],21,[],h⟩ (RL Tryz.f72 K)=true):Sem TP 72 [a0] h K:=
 SB Tryz.func72 rfl (by decide) (by kernel_rfl) hh
noncomputable def F.eS.L0:=partOf (ah Tryz.f34) [1,0,1,0,0]
noncomputable def F.eS.cR(K:Out->Heap->Bool):=(aX 0 (cQ false (EV (partOf (ah Tryz.f34) [1,1])) (RL Tryz.f34 K)))
theorem F.eS.aT:EV F.eS.L0 ⟨e,18,[],h⟩ J=(af (bX .slice (e 0) h) fun c=>af (aG .lss (e 5) c) fun d=>let Q1:=(aa (aa (aa (aa e 6 (e 5)) 7 (e 0)) 8 c) 9 d);ay d (af (dN 1 (e 0) (e 5)) fun a=>af (ag none a h) fun b=>aB TP 20 [b,(e 1)] h (bK (fun f g=>let Q2:=(aa (aa (aa (aa (aa (aa Q1 12 (e 0)) 13 (e 5)) 14 a) 15 b) 16 (e 1)) 17 f);ay f (J .ret ⟨(aa Q2 4 (.bool true)),18,[],g⟩) (af (aG .add (e 5) (.int .i64 1)) fun i=>J .normal ⟨(aa (aa (aa Q2 10 (e 5)) 11 i) 5 i),18,[],g⟩)) (fun j k=>J (.panic j) ⟨(aa (aa (aa (aa (aa Q1 12 (e 0)) 13 (e 5)) 14 a) 15 b) 16 (e 1)),18,[],k⟩))) (J (.exit 0) ⟨Q1,18,[],h⟩)):=by kernel_rfl
theorem F.eS.aF:F.eS.cR K (.exit 0) ⟨e,18,[],h⟩=(K (.ret (.bool false)) h):=by kernel_rfl
theorem F.eS.bz:F.eS.cR K .ret ⟨e,18,[],h⟩=(K (.ret (e 4)) h):=by kernel_rfl
theorem F.DJ:EV (ah Tryz.f34) ⟨aE [a0,a1],18,[],h⟩ (RL Tryz.f34 K)=(bV (EV F.eS.L0) ⟨(aa (aa (aE [a0,a1]) 4 (.bool false)) 5 (.int .i64 0)),18,[],h⟩ (F.eS.cR K)):=by kernel_rfl
theorem F.BT(hh:EV (ah Tryz.f34) ⟨aE [a0,a1],18,[],h⟩ (RL Tryz.f34 K)=true):Sem TP 34 [a0,a1] h K:=
 SB Tryz.func34 rfl (by decide) (by kernel_rfl) hh
noncomputable def F.gC.L0:=partOf (ah Tryz.f63) [1,1,1,1,1,0,1,0,0]
noncomputable def F.gC.cR(K:Out->Heap->Bool):=(aX 0 (cQ false (EV (partOf (ah Tryz.f63) [1,1,1,1,1,1])) (RL Tryz.f63 K)))
theorem F.gC.aT:EV F.gC.L0 ⟨e,46,[],h⟩ J=(af (aG .geq (e 11) (.int .i64 0)) fun a=>let Q1:=(aa (aa e 32 (e 11)) 33 a);ay a (af (aG .rem (e 2) (e 0)) fun b=>af (aG .quo (e 2) (e 0)) fun c=>af (dN 1 (e 10) (e 11)) fun d=>af (bf 1 d b h) fun g=>af (aG .sub (e 11) (.int .i64 1)) fun f=>J .normal ⟨(aa (aa (aa (aa (aa (aa (aa (aa (aa (aa (aa (aa (aa Q1 36 (e 10)) 37 (e 11)) 38 (e 2)) 39 (e 0)) 40 b) 41 (e 2)) 42 (e 0)) 43 c) 44 d) 2 c) 34 (e 11)) 35 f) 11 f),46,[],g⟩) (J (.exit 0) ⟨Q1,46,[],h⟩)):=by kernel_rfl
theorem F.gC.aF:F.gC.cR K (.exit 0) ⟨e,46,[],h⟩=(K (.ret (.tuple [(e 10),(.int .i64 0)])) h):=by kernel_rfl
theorem F.DK:EV (ah Tryz.f63) ⟨aE [a0,a1,a2],46,[],h⟩ (RL Tryz.f63 K)=(aB TP 99 [a0,a1] h (bK (fun c d=>af (bD c 0) fun f=>af (bD c 1) fun a=>af (qF (.int .i64) a (.int .i64 0)) fun k=>ay k (K (.ret (.tuple [.ax,a])) d) (af (aG .lss a2 (.int .i64 0)) fun g=>ay g (K (.ret (.tuple [.ax,(.int .i64 2)])) d) (af (aG .geq a2 f) fun i=>ay i (K (.ret (.tuple [.ax,(.int .i64 2)])) d) (cX (gr 1 8 [(.int .i64 0)] a1 a1 d) fun l j=>af (aG .sub a1 (.int .i64 1)) fun b=>bV (EV F.gC.L0) ⟨(aa (aa (aa (aa (aa (aa (aa (aa (aa (aa (aa (aa (aa (aa (aa (aa (aa (aa (aa (aa (aa (aa (aa (aa (aa (aa (aa (aa (aE [a0,a1,a2]) 6 .ax) 7 (.int .i64 0)) 13 a0) 14 a1) 15 c) 12 c) 16 f) 17 a) 8 f) 9 a) 18 a) 19 k) 21 a2) 22 g) 23 g) 23 (.bool false)) 24 a2) 23 (.bool false)) 25 f) 23 (.bool false)) 26 i) 27 i) 28 a1) 29 l) 10 l) 30 a1) 31 b) 11 b),46,[],j⟩ (F.gC.cR K))))) (fun m n=>K (.panic m) n))):=by kernel_rfl
theorem F.BU(hh:EV (ah Tryz.f63) ⟨aE [a0,a1,a2],46,[],h⟩ (RL Tryz.f63 K)=true):Sem TP 63 [a0,a1,a2] h K:=
 SB Tryz.func63 rfl (by decide) (by kernel_rfl) hh
noncomputable def F.cJ.L0:=partOf (ah Tryz.f46) [1,1,0,1,0,0]
noncomputable def F.cJ.cR(K:Out->Heap->Bool):=(aX 0 (cQ false (EV (partOf (ah Tryz.f46) [1,1,1])) (RL Tryz.f46 K)))
noncomputable def F.cJ.L1:=partOf (ah Tryz.f46) [1,1,0,1,0,0,1,1,0,0,1,1,0,1,0,0]
noncomputable def F.cJ.jF(J:AX->St->Bool):=(aX 2 (cQ false (EV (partOf (ah Tryz.f46) [1,1,0,1,0,0,1,1,0,0,1,1,1])) (aX 1 (cQ false (EV (partOf (ah Tryz.f46) [1,1,0,1,0,0,1,1,1])) J))))
theorem F.cJ.aT:EV F.cJ.L0 ⟨e,47,[],h⟩ J=(af (aG .lss (e 15) (e 14)) fun m=>ay m (af (dN 3 (e 13) (e 15)) fun o=>af (ag (some 3) o h) fun c=>af (bf 3 (.ptr (Heap.next h) 0) c (Heap.alloc h (.cells [(.str []),(.int .i64 0),.ax]))) fun a=>af (bT 0 (.ptr (Heap.next h) 0)) fun d=>af (ag none d a) fun f=>af (bT 1 (.ptr (Heap.next h) 0)) fun g=>af (ag none g a) fun i=>af (iD [(.str []),(.int .i64 0),.ax] [(0,1),(1,1)] [f,i]) fun j=>af (bf 3 (.ptr (Heap.next a) 0) j (Heap.alloc a (.cells [(.str []),(.int .i64 0),.ax]))) fun b=>af (bT 2 (.ptr (Heap.next h) 0)) fun k=>af (ag none k b) fun l=>af (bX .slice l b) fun n=>bV (EV F.cJ.L1) ⟨(aa (aa (aa (aa (aa (aa (aa (aa (aa (aa (aa (aa (aa (aa e 16 m) 17 o) 18 c) 5 (.ptr (Heap.next h) 0)) 19 d) 20 f) 21 g) 22 i) 23 j) 6 (.ptr (Heap.next a) 0)) 24 k) 25 l) 26 n) 27 (.int .i64 0)),47,[],b⟩ (F.cJ.jF J)) (J (.exit 0) ⟨(aa e 16 m),47,[],h⟩)):=by kernel_rfl
theorem F.cJ.aF:F.cJ.cR K (.exit 0) ⟨e,47,[],h⟩=(af (ag (some 2) (e 3) h) fun a=>af (bf 2 (e 2) a h) fun b=>af (dG TP ⟨(aa e 46 a),47,[],b⟩ Tryz.f46.results.toList) fun c=>K (.ret (oneOf c)) b):=by kernel_rfl
theorem F.cJ.dm:EV F.cJ.L1 ⟨e,47,[],h⟩ J=(af (aG .lss (e 27) (e 26)) fun c=>ay c (af (dN 1 (e 25) (e 27)) fun g=>af (ag none g h) fun a=>af (bT 2 (e 6)) fun d=>af (ag none d h) fun f=>aB TP 49 [a] h (bK (fun i b=>if ((af (ag none d b) fun m=>AV.beq m f)&&true)=true then (af (fB [.ax] [(0,1)] [i]) fun n=>cX (bY 1 24 f (.slice (Heap.next b) 0 1 1) (Heap.alloc b (.cells n))) fun j o=>af (bT 2 (e 6)) fun k=>af (bf 1 k j o) fun p=>af (aG .add (e 27) (.int .i64 1)) fun l=>J .normal ⟨(aa (aa (aa (aa (aa (aa (aa (aa (aa (aa (aa (aa (aa e 28 c) 29 g) 30 a) 8 a) 31 d) 32 f) 33 a) 34 i) 35 (.slice (Heap.next b) 0 1 1)) 36 j) 37 k) 38 l) 27 l),47,[],p⟩) else false) (fun _ _=>false))) (J (.exit 2) ⟨(aa e 28 c),47,[],h⟩)):=by kernel_rfl
theorem F.cJ.cq:F.cJ.jF J (.exit 2) ⟨e,47,[],h⟩=(af (bT 1 (e 3)) fun a=>af (ag none a h) fun b=>af (ag (some 3) (e 6) h) fun c=>af (fB [(.str []),(.int .i64 0),.ax] [(0,3)] [c]) fun i=>cX (bY 3 48 b (.slice (Heap.next h) 0 1 3) (Heap.alloc h (.cells i))) fun d j=>af (bT 1 (e 3)) fun f=>af (bf 1 f d j) fun k=>af (aG .add (e 15) (.int .i64 1)) fun g=>J .normal ⟨(aa (aa (aa (aa (aa (aa (aa (aa e 39 a) 40 b) 41 c) 42 (.slice (Heap.next h) 0 1 3)) 43 d) 44 f) 45 g) 15 g),47,[],k⟩):=by kernel_rfl
theorem F.xg:EV (ah Tryz.f46) ⟨aE [a0],47,[],h⟩ (RL Tryz.f46 K)=(af (eW a0) fun a=>af (bT 0 (.ptr (Heap.next h) 0)) fun c=>af (ag none c (Heap.alloc (Heap.alloc h (.cells a)) (.cells [(.int .i64 0),.ax]))) fun d=>af (iD [(.int .i64 0),.ax] [(0,1)] [d]) fun f=>af (bf 2 (.ptr (Heap.next (Heap.alloc (Heap.alloc h (.cells a)) (.cells [(.int .i64 0),.ax]))) 0) f (Heap.alloc (Heap.alloc (Heap.alloc h (.cells a)) (.cells [(.int .i64 0),.ax])) (.cells [(.int .i64 0),.ax]))) fun b=>af (bT 1 (.ptr (Heap.next h) 0)) fun g=>af (ag none g b) fun i=>af (bX .slice i b) fun j=>bV (EV F.cJ.L0) ⟨(aa (aa (aa (aa (aa (aa (aa (aa (aa (aa (aE [a0]) 1 (.ptr (Heap.next h) 0)) 2 (.ptr (Heap.next (Heap.alloc h (.cells a))) 0)) 9 c) 10 d) 11 f) 3 (.ptr (Heap.next (Heap.alloc (Heap.alloc h (.cells a)) (.cells [(.int .i64 0),.ax]))) 0)) 12 g) 13 i) 14 j) 15 (.int .i64 0)),47,[],b⟩ (F.cJ.cR K)):=by kernel_rfl
theorem F.uA(hh:EV (ah Tryz.f46) ⟨aE [a0],47,[],h⟩ (RL Tryz.f46 K)=true):Sem TP 46 [a0] h K:=
 SB Tryz.func46 rfl (by decide) (by kernel_rfl) hh
theorem F.kF:EV (ah Tryz.f49) ⟨aE [a0],8,[],h⟩ (RL Tryz.f49 K)=(af (jK (.slice 3) a0 .ax) fun a=>ay a (K (.ret .ax) h) (af (fB [] [] []) fun b=>cX (bY 1 8 (.slice (Heap.next h) 0 0 1) a0 (Heap.alloc h (.cells b))) fun c d=>K (.ret c) d)):=by kernel_rfl
theorem F.jZ(hh:EV (ah Tryz.f49) ⟨aE [a0],8,[],h⟩ (RL Tryz.f49 K)=true):Sem TP 49 [a0] h K:=
 SB Tryz.func49 rfl (by decide) (by kernel_rfl) hh
noncomputable def F.bH.L0:=partOf (ah Tryz.f23) [1,1,1,1,0,1,0,0]
noncomputable def F.bH.cR(K:Out->Heap->Bool):=(aX 0 (cQ false (EV (partOf (ah Tryz.f23) [1,1,1,1,1])) (RL Tryz.f23 K)))
noncomputable def F.bH.L1:=partOf (ah Tryz.f23) [1,1,1,1,1,0,1,0,0]
noncomputable def F.bH.jF(K:Out->Heap->Bool):=(aX 2 (cQ false (EV (partOf (ah Tryz.f23) [1,1,1,1,1,1])) (RL Tryz.f23 K)))
noncomputable def F.bH.L2:=partOf (ah Tryz.f23) [1,1,1,1,1,0,1,0,0,1,0,0,1,0,1,0,0]
noncomputable def F.bH.sY(J:AX->St->Bool):=(aX 4 (cQ false (EV (partOf (ah Tryz.f23) [1,1,1,1,1,0,1,0,0,1,0,0,1,1])) (aX 3 (cQ false (EV (partOf (ah Tryz.f23) [1,1,1,1,1,0,1,0,0,1,1])) J))))
theorem F.bH.aT:EV F.bH.L0 ⟨e,69,[],h⟩ J=(af (bX .slice (e 5) h) fun a=>af (aG .lss (e 6) a) fun b=>let Q1:=(aa (aa (aa (aa e 25 (e 6)) 26 (e 5)) 27 a) 28 b);ay b (af (ag (some 2) (e 3) h) fun c=>af (dN 1 (e 5) (e 6)) fun d=>af (ag none d h) fun f=>aB TP 69 [c,f] h (bK (fun g i=>af (aG .geq g (.int .i64 0)) fun j=>let Q2:=(aa (aa (aa (aa (aa (aa (aa Q1 31 c) 32 (e 5)) 33 (e 6)) 34 d) 35 f) 36 g) 37 j);ay j (J .ret ⟨(aa Q2 4 (.int .i64 4)),69,[],i⟩) (af (aG .add (e 6) (.int .i64 1)) fun k=>J .normal ⟨(aa (aa (aa Q2 29 (e 6)) 30 k) 6 k),69,[],i⟩)) (fun _ _=>false))) (J (.exit 0) ⟨Q1,69,[],h⟩)):=by kernel_rfl
theorem F.bH.aF:F.bH.cR K (.exit 0) ⟨e,69,[],h⟩=(bV (EV F.bH.L1) ⟨(aa e 7 (.int .i64 0)),69,[],h⟩ (F.bH.jF K)):=by kernel_rfl
theorem F.bH.bz:F.bH.cR K .ret ⟨e,69,[],h⟩=(K (.ret (e 4)) h):=by kernel_rfl
theorem F.bH.dm:EV F.bH.L1 ⟨e,69,[],h⟩ J=(af (bX .slice (e 0) h) fun a=>af (aG .lss (e 7) a) fun b=>let Q1:=(aa (aa (aa (aa e 38 (e 7)) 39 (e 0)) 40 a) 41 b);ay b (bV (EV F.bH.L2) ⟨(aa (aa Q1 8 (.int .i64 1)) 9 (.int .i64 0)),69,[],h⟩ (F.bH.sY J)) (J (.exit 2) ⟨Q1,69,[],h⟩)):=by kernel_rfl
theorem F.bH.cq:F.bH.jF K (.exit 2) ⟨e,69,[],h⟩=(af (ag (some 2) (e 3) h) fun b=>aB TP 70 [(e 0),b] h (bK (fun c d=>aB TP 66 [c] d (bK (fun f a=>af (lU .not f) fun g=>ay g (K (.ret (.int .i64 5)) a) (K (.ret (.int .i64 0)) a)) (fun i j=>K (.panic i) j))) (fun k l=>K (.panic k) l))):=by kernel_rfl
theorem F.bH.jP:F.bH.jF K .ret ⟨e,69,[],h⟩=(K (.ret (e 4)) h):=by kernel_rfl
theorem F.bH.jf:EV F.bH.L2 ⟨e,69,[],h⟩ J=(af (dN 3 (e 0) (e 7)) fun b=>af (ag (some 3) b h) fun c=>aB TP 43 [c] h (bK (fun g a=>af (bX .slice g a) fun i=>af (aG .lss (e 9) i) fun d=>let Q1:=(aa (aa (aa (aa (aa (aa (aa (aa (aa e 44 (e 9)) 45 (e 0)) 46 (e 7)) 47 b) 48 c) 49 g) 50 i) 51 d) 52 d);ay d (af (aG .leq (e 8) (.int .i64 65536)) fun f=>let Q2:=(aa (aa (aa (aa (aa Q1 52 (.bool true)) 53 (e 8)) 52 (.bool true)) 54 f) 55 f);ay f (af (bT 0 (e 3)) fun j=>af (ag none j a) fun k=>af (aG .mul (e 8) k) fun l=>af (aG .add (e 9) (.int .i64 1)) fun m=>J .normal ⟨(aa (aa (aa (aa (aa (aa (aa (aa Q2 58 (e 8)) 59 j) 60 k) 61 l) 8 l) 56 (e 9)) 57 m) 9 m),69,[],a⟩) (J (.exit 4) ⟨Q2,69,[],a⟩)) (J (.exit 4) ⟨(aa (aa (aa (aa (aa Q1 52 (.bool false)) 53 bM) 52 (.bool false)) 54 bM) 55 (.bool false)),69,[],a⟩)) (fun n o=>J (.panic n) ⟨(aa (aa (aa (aa (aa e 44 (e 9)) 45 (e 0)) 46 (e 7)) 47 b) 48 c),69,[],o⟩))):=by kernel_rfl
theorem F.bH.fX:F.bH.sY J (.exit 4) ⟨e,69,[],h⟩=(af (aG .gtr (e 8) (.int .i64 65536)) fun a=>ay a (J .ret ⟨(aa (aa (aa e 62 (e 8)) 63 a) 4 (.int .i64 5)),69,[],h⟩) (af (aG .add (e 7) (.int .i64 1)) fun b=>J .normal ⟨(aa (aa (aa (aa (aa e 62 (e 8)) 63 a) 42 (e 7)) 43 b) 7 b),69,[],h⟩)):=by kernel_rfl
theorem F.DL:EV (ah Tryz.f23) ⟨aE [a0,a1],69,[],h⟩ (RL Tryz.f23 K)=(af (eW a1) fun v=>aB TP 65 [a0] (Heap.alloc h (.cells v)) (bK (fun r l=>af (lU .not r) fun m=>ay m (K (.ret (.int .i64 1)) l) (af (ag (some 2) (.ptr (Heap.next h) 0) l) fun s=>aB TP 66 [s] l (bK (fun t u=>af (lU .not t) fun a=>ay a (K (.ret (.int .i64 1)) u) (aB TP 35 [a0] u (bK (fun c d=>af (ag (some 2) (.ptr (Heap.next h) 0) d) fun b=>aB TP 68 [a0] d (bK (fun f g=>if ((af (ag (some 2) (.ptr (Heap.next h) 0) g) fun n=>AV.beq n b)&&true)=true then (aB TP 67 [b,f] g (bK (fun i j=>af (lU .not i) fun k=>ay k (K (.ret (.int .i64 4)) j) (bV (EV F.bH.L0) ⟨(aa (aa (aa (aa (aa (aa (aa (aa (aa (aa (aa (aa (aa (aa (aa (aa (aa (aa (aa (aa (aa (aa (aE [a0,a1]) 3 (.ptr (Heap.next h) 0)) 4 (.int .i64 0)) 10 a0) 11 r) 12 m) 13 m) 13 (.bool false)) 14 s) 13 (.bool false)) 15 t) 13 (.bool false)) 16 a) 17 a) 18 a0) 19 c) 5 c) 20 b) 21 a0) 22 f) 23 i) 24 k) 6 (.int .i64 0)),69,[],j⟩ (F.bH.cR K))) (fun _ _=>false))) else false) (fun _ _=>false))) (fun o p=>K (.panic o) p)))) (fun w q=>K (.panic w) q)))) (fun x y=>K (.panic x) y))):=by kernel_rfl
theorem F.BV(hh:EV (ah Tryz.f23) ⟨aE [a0,a1],69,[],h⟩ (RL Tryz.f23 K)=true):Sem TP 23 [a0,a1] h K:=
 SB Tryz.func23 rfl (by decide) (by kernel_rfl) hh
noncomputable def F.cz.L0:=partOf (ah Tryz.f68) [1,1,1,1,0,1,0,0]
noncomputable def F.cz.cR(K:Out->Heap->Bool):=(aX 0 (cQ false (EV (partOf (ah Tryz.f68) [1,1,1,1,1])) (RL Tryz.f68 K)))
noncomputable def F.cz.L1:=partOf (ah Tryz.f68) [1,1,1,1,1,1,0,1,0,0]
noncomputable def F.cz.jF(K:Out->Heap->Bool):=(aX 2 (cQ false (EV (partOf (ah Tryz.f68) [1,1,1,1,1,1,1])) (RL Tryz.f68 K)))
theorem F.cz.aT:EV F.cz.L0 ⟨e,55,[],h⟩ J=(af (bX .slice (e 5) h) fun t=>af (aG .lss (e 6) t) fun u=>let Q1:=(aa (aa (aa (aa e 13 (e 6)) 14 (e 5)) 15 t) 16 u);ay u (af (dN 2 (e 5) (e 6)) fun a=>af (bT 0 a) fun b=>af (ag none b h) fun c=>aB TP 86 [(e 3),c] h (bK (fun j d=>af (lU .not j) fun k=>let Q2:=(aa (aa (aa (aa (aa (aa (aa (aa Q1 19 (e 3)) 20 (e 5)) 21 (e 6)) 22 a) 23 b) 24 c) 25 j) 26 k);ay k (af (dN 2 (e 5) (e 6)) fun f=>af (bT 0 f) fun g=>af (ag none g d) fun i=>aB TP 79 [(e 4),i] d (bK (fun l o=>af (aG .add (e 6) (.int .i64 1)) fun m=>J .normal ⟨(aa (aa (aa (aa (aa (aa (aa (aa (aa (aa (aa Q2 27 (e 4)) 28 (e 5)) 29 (e 6)) 30 f) 31 g) 32 i) 33 l) 4 l) 17 (e 6)) 18 m) 6 m),55,[],o⟩) (fun p q=>J (.panic p) ⟨(aa (aa (aa (aa (aa (aa Q2 27 (e 4)) 28 (e 5)) 29 (e 6)) 30 f) 31 g) 32 i),55,[],q⟩))) (af (aG .add (e 6) (.int .i64 1)) fun n=>J .normal ⟨(aa (aa (aa Q2 17 (e 6)) 18 n) 6 n),55,[],d⟩)) (fun r s=>J (.panic r) ⟨(aa (aa (aa (aa (aa (aa Q1 19 (e 3)) 20 (e 5)) 21 (e 6)) 22 a) 23 b) 24 c),55,[],s⟩))) (J (.exit 0) ⟨Q1,55,[],h⟩)):=by kernel_rfl
theorem F.cz.aF:F.cz.cR K (.exit 0) ⟨e,55,[],h⟩=(bV (EV F.cz.L1) ⟨(aa (aa e 7 .ax) 8 (.int .i64 0)),55,[],h⟩ (F.cz.jF K)):=by kernel_rfl
theorem F.cz.dm:EV F.cz.L1 ⟨e,55,[],h⟩ J=(af (bX .slice (e 4) h) fun d=>af (aG .lss (e 8) d) fun f=>let Q1:=(aa (aa (aa (aa e 34 (e 8)) 35 (e 4)) 36 d) 37 f);ay f (af (dN 1 (e 4) (e 8)) fun b=>af (ag none b h) fun c=>af (dN 1 (e 4) (e 8)) fun g=>af (ag none g h) fun i=>aB TP 116 [(e 0),i] h (bK (fun j a=>if ((af (ag none b a) fun n=>AV.beq n c)&&true)=true then (af (iD [(.str []),(.int .i64 0)] [(0,1),(1,1)] [c,j]) fun k=>af (fB [(.str []),(.int .i64 0)] [(0,2)] [k]) fun o=>cX (bY 2 24 (e 7) (.slice (Heap.next a) 0 1 2) (Heap.alloc a (.cells o))) fun l p=>af (aG .add (e 8) (.int .i64 1)) fun m=>J .normal ⟨(aa (aa (aa (aa (aa (aa (aa (aa (aa (aa (aa (aa (aa (aa (aa (aa (aa (aa Q1 40 (e 7)) 41 (e 4)) 42 (e 8)) 43 b) 44 c) 45 (e 0)) 46 (e 4)) 47 (e 8)) 48 g) 49 i) 50 j) 51 k) 52 (.slice (Heap.next a) 0 1 2)) 53 l) 7 l) 38 (e 8)) 39 m) 8 m),55,[],p⟩) else false) (fun _ _=>false))) (J (.exit 2) ⟨Q1,55,[],h⟩)):=by kernel_rfl
theorem F.cz.cq:F.cz.jF K (.exit 2) ⟨e,55,[],h⟩=(K (.ret (e 7)) h):=by kernel_rfl
theorem F.Am:EV (ah Tryz.f68) ⟨aE [a0],55,[],h⟩ (RL Tryz.f68 K)=(aB TP 35 [a0] h (bK (fun a c=>aB TP 113 [a0] c (bK (fun b d=>bV (EV F.cz.L0) ⟨(aa (aa (aa (aa (aa (aa (aa (aa (aa (aE [a0]) 2 .ax) 9 a0) 10 a) 3 a) 4 .ax) 11 a0) 12 b) 5 b) 6 (.int .i64 0)),55,[],d⟩ (F.cz.cR K)) (fun f g=>K (.panic f) g))) (fun i j=>K (.panic i) j))):=by kernel_rfl
theorem F.zg(hh:EV (ah Tryz.f68) ⟨aE [a0],55,[],h⟩ (RL Tryz.f68 K)=true):Sem TP 68 [a0] h K:=
 SB Tryz.func68 rfl (by decide) (by kernel_rfl) hh
noncomputable def F.ew.L0:=partOf (ah Tryz.f116) [1,1,0,1,0,0]
noncomputable def F.ew.cR(K:Out->Heap->Bool):=(aX 0 (cQ false (EV (partOf (ah Tryz.f116) [1,1,1])) (RL Tryz.f116 K)))
theorem F.ew.aT:EV F.ew.L0 ⟨e,27,[],h⟩ J=(af (bX .slice (e 5) h) fun f=>af (aG .lss (e 6) f) fun g=>let Q1:=(aa (aa (aa (aa e 9 (e 6)) 10 (e 5)) 11 f) 12 g);ay g (af (dN 2 (e 5) (e 6)) fun i=>af (bT 0 i) fun j=>af (ag none j h) fun k=>af (jK .string k (e 1)) fun l=>let Q2:=(aa (aa (aa (aa (aa (aa (aa Q1 15 (e 5)) 16 (e 6)) 17 i) 18 j) 19 k) 20 (e 1)) 21 l);ay l (af (dN 2 (e 5) (e 6)) fun a=>af (bT 1 a) fun b=>af (ag none b h) fun c=>J .ret ⟨(aa (aa (aa (aa (aa (aa Q2 22 (e 5)) 23 (e 6)) 24 a) 25 b) 26 c) 4 c),27,[],h⟩) (af (aG .add (e 6) (.int .i64 1)) fun d=>J .normal ⟨(aa (aa (aa Q2 13 (e 6)) 14 d) 6 d),27,[],h⟩)) (J (.exit 0) ⟨Q1,27,[],h⟩)):=by kernel_rfl
theorem F.ew.aF:F.ew.cR K (.exit 0) ⟨e,27,[],h⟩=(K (.ret (.int .i64 (-1))) h):=by kernel_rfl
theorem F.ew.bz:F.ew.cR K .ret ⟨e,27,[],h⟩=(K (.ret (e 4)) h):=by kernel_rfl
theorem F.DM:EV (ah Tryz.f116) ⟨aE [a0,a1],27,[],h⟩ (RL Tryz.f116 K)=(aB TP 113 [a0] h (bK (fun a b=>bV (EV F.ew.L0) ⟨(aa (aa (aa (aa (aa (aE [a0,a1]) 4 (.int .i64 0)) 7 a0) 8 a) 5 a) 6 (.int .i64 0)),27,[],b⟩ (F.ew.cR K)) (fun c d=>K (.panic c) d))):=by kernel_rfl
theorem F.BW(hh:EV (ah Tryz.f116) ⟨aE [a0,a1],27,[],h⟩ (RL Tryz.f116 K)=true):Sem TP 116 [a0,a1] h K:=
 SB Tryz.func116 rfl (by decide) (by kernel_rfl) hh
noncomputable def F.gm.L0:=partOf (ah Tryz.f70) [1,1,1,0,1,0,0]
noncomputable def F.gm.cR(K:Out->Heap->Bool):=(aX 0 (cQ false (EV (partOf (ah Tryz.f70) [1,1,1,1])) (RL Tryz.f70 K)))
theorem F.gm.aT:EV F.gm.L0 ⟨e,35,[],h⟩ J=(af (bX .slice (e 6) h) fun g=>af (aG .lss (e 7) g) fun i=>let Q1:=(aa (aa (aa (aa e 12 (e 7)) 13 (e 6)) 14 g) 15 i);ay i (af (bT 1 (e 5)) fun b=>af (ag none b h) fun c=>af (dN 1 (e 6) (e 7)) fun d=>af (ag none d h) fun f=>af (dN 1 (e 6) (e 7)) fun j=>af (ag none j h) fun k=>aB TP 116 [(e 0),k] h (bK (fun l a=>if ((af (ag none d a) fun q=>AV.beq q f)&&((af (ag none b a) fun r=>AV.beq r c)&&true))=true then (af (iD [(.str []),(.int .i64 0),.ax] [(0,1),(1,1)] [f,l]) fun m=>af (fB [(.str []),(.int .i64 0),.ax] [(0,3)] [m]) fun s=>cX (bY 3 48 c (.slice (Heap.next a) 0 1 3) (Heap.alloc a (.cells s))) fun n t=>af (bT 1 (e 5)) fun o=>af (bf 1 o n t) fun u=>af (aG .add (e 7) (.int .i64 1)) fun p=>J .normal ⟨(aa (aa (aa (aa (aa (aa (aa (aa (aa (aa (aa (aa (aa (aa (aa (aa (aa (aa (aa Q1 18 b) 19 c) 20 (e 6)) 21 (e 7)) 22 d) 23 f) 24 (e 0)) 25 (e 6)) 26 (e 7)) 27 j) 28 k) 29 l) 30 m) 31 (.slice (Heap.next a) 0 1 3)) 32 n) 33 o) 16 (e 7)) 17 p) 7 p),35,[],u⟩) else false) (fun _ _=>false))) (J (.exit 0) ⟨Q1,35,[],h⟩)):=by kernel_rfl
theorem F.gm.aF:F.gm.cR K (.exit 0) ⟨e,35,[],h⟩=(af (ag (some 2) (e 5) h) fun a=>af (bf 2 (e 4) a h) fun b=>af (dG TP ⟨(aa e 34 a),35,[],b⟩ Tryz.f70.results.toList) fun c=>K (.ret (oneOf c)) b):=by kernel_rfl
theorem F.DN:EV (ah Tryz.f70) ⟨aE [a0,a1],35,[],h⟩ (RL Tryz.f70 K)=(af (eW a1) fun a=>af (ag (some 2) (.ptr (Heap.next h) 0) (Heap.alloc (Heap.alloc h (.cells a)) (.cells [(.int .i64 0),.ax]))) fun d=>aB TP 25 [d] (Heap.alloc (Heap.alloc h (.cells a)) (.cells [(.int .i64 0),.ax])) (bK (fun f b=>af (bf 2 (.ptr (Heap.next b) 0) f (Heap.alloc b (.cells [(.int .i64 0),.ax]))) fun i=>aB TP 35 [a0] i (bK (fun g j=>bV (EV F.gm.L0) ⟨(aa (aa (aa (aa (aa (aa (aa (aa (aa (aE [a0,a1]) 3 (.ptr (Heap.next h) 0)) 4 (.ptr (Heap.next (Heap.alloc h (.cells a))) 0)) 8 d) 9 f) 5 (.ptr (Heap.next b) 0)) 10 a0) 11 g) 6 g) 7 (.int .i64 0)),35,[],j⟩ (F.gm.cR K)) (fun k c=>K (.panic k) c))) (fun l m=>K (.panic l) m))):=by kernel_rfl
theorem F.BX(hh:EV (ah Tryz.f70) ⟨aE [a0,a1],35,[],h⟩ (RL Tryz.f70 K)=true):Sem TP 70 [a0,a1] h K:=
 SB Tryz.func70 rfl (by decide) (by kernel_rfl) hh
noncomputable def F.cZ.L0:=partOf (ah Tryz.f10) [1,1,1,1,0,1,0,0]
noncomputable def F.cZ.cR(K:Out->Heap->Bool):=(aX 0 (cQ false (EV (partOf (ah Tryz.f10) [1,1,1,1,1])) (RL Tryz.f10 K)))
noncomputable def F.cZ.L1:=partOf (ah Tryz.f10) [1,1,1,1,0,1,0,0,1,0,0,1,0,1,0,0]
noncomputable def F.cZ.jF(J:AX->St->Bool):=(aX 2 (cQ false (EV (partOf (ah Tryz.f10) [1,1,1,1,0,1,0,0,1,0,0,1,1])) (aX 1 (cQ false (EV (partOf (ah Tryz.f10) [1,1,1,1,0,1,0,0,1,1])) J))))
theorem F.cZ.aT:EV F.cZ.L0 ⟨e,50,[],h⟩ J=(af (bX .slice (e 0) h) fun a=>af (aG .lss (e 8) a) fun b=>let Q1:=(aa (aa (aa (aa e 24 (e 8)) 25 (e 0)) 26 a) 27 b);ay b (bV (EV F.cZ.L1) ⟨(aa (aa Q1 9 (.int .i64 1)) 10 (.int .i64 0)),50,[],h⟩ (F.cZ.jF J)) (J (.exit 0) ⟨Q1,50,[],h⟩)):=by kernel_rfl
theorem F.cZ.aF:F.cZ.cR K (.exit 0) ⟨e,50,[],h⟩=(af (aG .leq (e 7) (e 2)) fun a=>K (.ret a) h):=by kernel_rfl
theorem F.cZ.dm:EV F.cZ.L1 ⟨e,50,[],h⟩ J=(af (dN 3 (e 0) (e 8)) fun b=>af (ag (some 3) b h) fun c=>aB TP 43 [c] h (bK (fun d a=>af (bX .slice d a) fun f=>af (aG .lss (e 10) f) fun g=>let Q1:=(aa (aa (aa (aa (aa (aa (aa (aa e 30 (e 10)) 31 (e 0)) 32 (e 8)) 33 b) 34 c) 35 d) 36 f) 37 g);ay g (af (bT 0 (e 4)) fun i=>af (ag none i a) fun j=>af (aG .mul (e 9) j) fun k=>af (aG .add (e 10) (.int .i64 1)) fun l=>J .normal ⟨(aa (aa (aa (aa (aa (aa (aa (aa Q1 40 (e 9)) 41 i) 42 j) 43 k) 9 k) 38 (e 10)) 39 l) 10 l),50,[],a⟩) (J (.exit 2) ⟨Q1,50,[],a⟩)) (fun m n=>J (.panic m) ⟨(aa (aa (aa (aa (aa e 30 (e 10)) 31 (e 0)) 32 (e 8)) 33 b) 34 c),50,[],n⟩))):=by kernel_rfl
theorem F.cZ.cq:F.cZ.jF J (.exit 2) ⟨e,50,[],h⟩=(af (aG .add (e 7) (e 9)) fun a=>af (aG .add (e 8) (.int .i64 1)) fun b=>J .normal ⟨(aa (aa (aa (aa (aa (aa (aa e 44 (e 7)) 45 (e 9)) 46 a) 7 a) 28 (e 8)) 29 b) 8 b),50,[],h⟩):=by kernel_rfl
theorem F.DO:EV (ah Tryz.f10) ⟨aE [a0,a1,a2],50,[],h⟩ (RL Tryz.f10 K)=(af (eW a1) fun r=>aB TP 41 [a0,(.int .i64 300)] (Heap.alloc h (.cells r)) (bK (fun o b=>af (lU .not o) fun i=>ay i (K (.ret (.bool false)) b) (af (ag (some 2) (.ptr (Heap.next h) 0) b) fun p=>af (fB [(.int .i64 0),.ax] [(0,2)] [p]) fun s=>aB TP 42 [(.slice (Heap.next b) 0 1 2)] (Heap.alloc b (.cells s)) (bK (fun q j=>af (lU .not q) fun a=>ay a (K (.ret (.bool false)) j) (af (ag (some 2) (.ptr (Heap.next h) 0) j) fun c=>aB TP 23 [a0,c] j (bK (fun d f=>af (qF (.int .i64) d (.int .i64 0)) fun g=>ay g (K (.ret (.bool true)) f) (bV (EV F.cZ.L0) ⟨(aa (aa (aa (aa (aa (aa (aa (aa (aa (aa (aa (aa (aa (aa (aa (aa (aa (aa (aa (aa (aa (aE [a0,a1,a2]) 4 (.ptr (Heap.next h) 0)) 6 (.bool false)) 11 a0) 12 o) 13 i) 14 i) 14 (.bool false)) 15 p) 14 (.bool false)) 16 (.slice (Heap.next b) 0 1 2)) 14 (.bool false)) 17 q) 14 (.bool false)) 18 a) 19 a) 20 a0) 21 c) 22 d) 23 g) 7 (.int .i64 0)) 8 (.int .i64 0)),50,[],f⟩ (F.cZ.cR K))) (fun k l=>K (.panic k) l)))) (fun m n=>K (.panic m) n)))) (fun t u=>K (.panic t) u))):=by kernel_rfl
theorem F.BY(hh:EV (ah Tryz.f10) ⟨aE [a0,a1,a2],50,[],h⟩ (RL Tryz.f10 K)=true):Sem TP 10 [a0,a1,a2] h K:=
 SB Tryz.func10 rfl (by decide) (by kernel_rfl) hh
theorem F.DP:EV (ah Tryz.f60) ⟨aE [a0,a1],4,[],h⟩ (RL Tryz.f60 K)=(af (eW a0) fun a=>K (.ret (.tuple [])) (Heap.alloc h (.cells a))):=by kernel_rfl
theorem F.BZ(hh:EV (ah Tryz.f60) ⟨aE [a0,a1],4,[],h⟩ (RL Tryz.f60 K)=true):Sem TP 60 [a0,a1] h K:=
 SB Tryz.func60 rfl (by decide) (by kernel_rfl) hh
end
end Go.AM
namespace Go.AM
open List Nat Bool Option
open Go
noncomputable section
def abf:List AV:=[(.au [(.int .i64 2),(.int .i64 2),(.int .i64 2)] 0 3 1),(.au [(.int .i64 0),(.int .i64 2)] 0 2 1)]
def abg:AV:=(.au [(.int .i64 2),(.int .i64 2)] 0 2 1)
theorem Ul:bU TP F0 D0 200 121 abf Heap.empty (cB false 20 abg)=true:=by kernel_rfl
def abh:List AV:=[(.agg [(.int .i64 3),(.au [(.str [69]),(.int .i64 2),(.au [(.au [(.int .i64 0),(.int .i64 1)] 0 2 1),(.au [(.int .i64 1),(.int .i64 2)] 0 2 1)] 0 2 1)] 0 1 3)]),(.str [69]),(.int .i64 2)]
def abi:AV:=(.int .i64 0)
theorem Um:bU TP F0 D0 200 53 abh Heap.empty (cB false 20 abi)=true:=by kernel_rfl
def abj:List AV:=[(.agg [(.int .i64 3),(.au [(.str [69]),(.int .i64 2),(.au [(.au [(.int .i64 1),(.int .i64 2)] 0 2 1)] 0 1 1)] 0 1 3)]),(.str [69]),(.int .i64 2)]
def abk:AV:=(.int .i64 0)
theorem Un:bU TP F0 D0 200 53 abj Heap.empty (cB true 20 abk)=true:=by kernel_rfl
def F1:yy:=fun x=>if x=130 then some (kf (jc sA0 sR0) (kf (jc sA1 sR1) (kf (jc sA2 sR2) (kf (jc sA3 sR3) (kf (jc sA4 sR4) (kf (jc sA5 sR5) (kf (jc sA6 sR6) (kf (jc sA7 sR7) (kf (jc sA8 sR8) (kf (jc sA9 sR9) (jc ZN ZO))))))))))) else if x=53 then some (kf (jc ZP ZQ) (kf (dP 20 abh abi) (jc abj abk))) else if x=99 then some (jc ZR ZS) else if x=121 then some (kf (dP 20 ZT ZU) (kf (dP 20 ZV ZW) (kf (dP 20 ZX ZY) (kf (dP 20 ZZ Z0) (kf (dP 20 Z1 Z2) (kf (dP 20 Z3 Z4) (kf (dP 20 Z5 Z6) (kf (dP 20 Z7 Z8) (kf (dP 20 Z9 aaa) (kf (dP 20 aab aac) (kf (dP 20 aad aae) (kf (dP 20 aaf aag) (kf (dP 20 aah aai) (kf (dP 20 aaj aak) (kf (dP 20 aal aam) (kf (dP 20 aan aao) (kf (dP 20 aap aaq) (kf (dP 20 aar aas) (kf (dP 20 aat aau) (kf (dP 20 aav aaw) (kf (dP 20 aax aay) (kf (dP 20 aaz aaA) (kf (dP 20 aaB aaC) (kf (dP 20 aaD aaE) (kf (dP 20 aaF aaG) (kf (dP 20 aaH aaI) (kf (dP 20 aaJ aaK) (kf (dP 20 aaL aaM) (kf (dP 20 aaN aaO) (kf (dP 20 aaP aaQ) (kf (dP 20 aaR aaS) (kf (dP 20 aaT aaU) (kf (dP 20 aaV aaW) (kf (dP 20 aaX aaY) (kf (dP 20 aaZ aa0) (kf (dP 20 aa1 aa2) (kf (dP 20 aa3 aa4) (kf (dP 20 aa5 aa6) (kf (dP 20 aa7 aa8) (kf (dP 20 aa9 aba) (kf (dP 20 abb abc) (kf (dP 20 abd abe) (dP 20 abf abg))))))))))))))))))))))))))))))))))))))))))) else F0 x
theorem JB:iR TP F1:=by
 have hs:=ke mixed rA uq 200;intro f g hg args h K hK;unfold F1 at hg;split at hg
 ·rename_i e;subst e;cases hg;rcases cy hK with hK|hK
  ·exact cO hs (by kernel_rfl) Xy args h K hK
  rcases cy hK with hK|hK
  ·exact cO hs (by kernel_rfl) Xz args h K hK
  rcases cy hK with hK|hK
  ·exact cO hs (by kernel_rfl) XA args h K hK
  rcases cy hK with hK|hK
  ·exact cO hs (by kernel_rfl) XB args h K hK
  rcases cy hK with hK|hK
  ·exact cO hs (by kernel_rfl) XC args h K hK
  rcases cy hK with hK|hK
  ·exact cO hs (by kernel_rfl) XD args h K hK
  rcases cy hK with hK|hK
  ·exact cO hs (by kernel_rfl) XE args h K hK
  rcases cy hK with hK|hK
  ·exact cO hs (by kernel_rfl) XF args h K hK
  rcases cy hK with hK|hK
  ·exact cO hs (by kernel_rfl) XG args h K hK
  rcases cy hK with hK|hK
  ·exact cO hs (by kernel_rfl) XH args h K hK
  exact cO hs (by kernel_rfl) TA args h K hK
 split at hg
 ·rename_i e;subst e;cases hg;rcases cy hK with hK|hK
  ·exact cO hs (by kernel_rfl) TB args h K hK
  rcases cy hK with hK|hK
  ·exact bh hs Um args h K hK
  exact cO hs (by kernel_rfl) Un args h K hK
 split at hg
 ·rename_i e;subst e;cases hg;exact cO hs (by kernel_rfl) TC args h K hK
 split at hg
 ·rename_i e;subst e;cases hg;rcases cy hK with hK|hK
  ·exact bh hs TD args h K hK
  rcases cy hK with hK|hK
  ·exact bh hs TE args h K hK
  rcases cy hK with hK|hK
  ·exact bh hs TF args h K hK
  rcases cy hK with hK|hK
  ·exact bh hs TG args h K hK
  rcases cy hK with hK|hK
  ·exact bh hs TH args h K hK
  rcases cy hK with hK|hK
  ·exact bh hs TI args h K hK
  rcases cy hK with hK|hK
  ·exact bh hs TJ args h K hK
  rcases cy hK with hK|hK
  ·exact bh hs TK args h K hK
  rcases cy hK with hK|hK
  ·exact bh hs TL args h K hK
  rcases cy hK with hK|hK
  ·exact bh hs TM args h K hK
  rcases cy hK with hK|hK
  ·exact bh hs TN args h K hK
  rcases cy hK with hK|hK
  ·exact bh hs TO args h K hK
  rcases cy hK with hK|hK
  ·exact bh hs TQ args h K hK
  rcases cy hK with hK|hK
  ·exact bh hs TR args h K hK
  rcases cy hK with hK|hK
  ·exact bh hs TS args h K hK
  rcases cy hK with hK|hK
  ·exact bh hs TT args h K hK
  rcases cy hK with hK|hK
  ·exact bh hs TU args h K hK
  rcases cy hK with hK|hK
  ·exact bh hs TV args h K hK
  rcases cy hK with hK|hK
  ·exact bh hs TW args h K hK
  rcases cy hK with hK|hK
  ·exact bh hs TX args h K hK
  rcases cy hK with hK|hK
  ·exact bh hs TY args h K hK
  rcases cy hK with hK|hK
  ·exact bh hs TZ args h K hK
  rcases cy hK with hK|hK
  ·exact bh hs T0 args h K hK
  rcases cy hK with hK|hK
  ·exact bh hs T1 args h K hK
  rcases cy hK with hK|hK
  ·exact bh hs T2 args h K hK
  rcases cy hK with hK|hK
  ·exact bh hs T3 args h K hK
  rcases cy hK with hK|hK
  ·exact bh hs T4 args h K hK
  rcases cy hK with hK|hK
  ·exact bh hs T6 args h K hK
  rcases cy hK with hK|hK
  ·exact bh hs T7 args h K hK
  rcases cy hK with hK|hK
  ·exact bh hs T8 args h K hK
  rcases cy hK with hK|hK
  ·exact bh hs T9 args h K hK
  rcases cy hK with hK|hK
  ·exact bh hs Ua args h K hK
  rcases cy hK with hK|hK
  ·exact bh hs Ub args h K hK
  rcases cy hK with hK|hK
  ·exact bh hs Uc args h K hK
  rcases cy hK with hK|hK
  ·exact bh hs Ud args h K hK
  rcases cy hK with hK|hK
  ·exact bh hs Ue args h K hK
  rcases cy hK with hK|hK
  ·exact bh hs Uf args h K hK
  rcases cy hK with hK|hK
  ·exact bh hs Ug args h K hK
  rcases cy hK with hK|hK
  ·exact bh hs Uh args h K hK
  rcases cy hK with hK|hK
  ·exact bh hs Ui args h K hK
  rcases cy hK with hK|hK
  ·exact bh hs Uj args h K hK
  rcases cy hK with hK|hK
  ·exact bh hs Uk args h K hK
  exact bh hs Ul args h K hK
 exact rA f g hg args h K hK
def abl:List AV:=[(.agg [(.str [80]),(.au [(.str [120]),(.str [121])] 0 2 1)])]
def abm:AV:=(.bool true)
theorem Uo:bU TP F1 D0 200 138 abl Heap.empty (cB false 20 abm)=true:=by kernel_rfl
def abn:List AV:=[(.agg [(.str [80]),(.au [(.str [120]),(.str [121])] 0 2 1),(.au [(.int .i64 0),(.bool false),(.str [69]),(.au [(.str [120]),(.str [121])] 0 2 1)] 0 1 4)])]
def abo:AV:=(.au [(.str [120]),(.str [121])] 0 2 1)
theorem Up:bU TP F1 D0 200 100 abn Heap.empty (cB false 20 abo)=true:=by kernel_rfl
def abp:List AV:=[(.agg [(.int .i64 0),(.bool false),(.str [69]),(.au [(.str [120]),(.str [121])] 0 2 1)])]
def abq:AV:=(.bool true)
theorem Uq:bU TP F1 D0 200 140 abp Heap.empty (cB false 20 abq)=true:=by kernel_rfl
def abr:List AV:=[(.agg [(.str [80]),(.au [(.str [120]),(.str [121])] 0 2 1),(.au [(.int .i64 0),(.bool false),(.str [69]),(.au [(.str [120]),(.str [122])] 0 2 1),(.int .i64 0),(.bool false),(.str [80]),(.au [(.str [122]),(.str [121])] 0 2 1)] 0 2 4)])]
def abt:AV:=(.au [(.str [120]),(.str [121]),(.str [122])] 0 3 1)
theorem Ur:bU TP F1 D0 200 100 abr Heap.empty (cB false 20 abt)=true:=by kernel_rfl
def abu:List AV:=[(.agg [(.int .i64 0),(.bool false),(.str [69]),(.au [(.str [120]),(.str [122])] 0 2 1)])]
def abv:AV:=(.bool true)
theorem Us:bU TP F1 D0 200 140 abu Heap.empty (cB false 20 abv)=true:=by kernel_rfl
def abw:List AV:=[(.agg [(.int .i64 0),(.bool false),(.str [80]),(.au [(.str [122]),(.str [121])] 0 2 1)])]
def abx:AV:=(.bool true)
theorem Ut:bU TP F1 D0 200 140 abw Heap.empty (cB false 20 abx)=true:=by kernel_rfl
def aby:List AV:=[(.agg [(.str [80]),(.au [(.str [120]),(.str [121])] 0 2 1)])]
def abz:AV:=(.bool true)
theorem Uu:bU TP F1 D0 200 138 aby Heap.empty (cB true 20 abz)=true:=by kernel_rfl
def abA:List AV:=[(.agg [(.str [80]),(.au [(.str [120]),(.str [121])] 0 2 1),(.au [(.int .i64 0),(.bool false),(.str [69]),(.au [(.str [120]),(.str [121])] 0 2 1)] 0 1 4)])]
def abB:AV:=(.au [(.str [120]),(.str [121])] 0 2 1)
theorem Uv:bU TP F1 D0 200 100 abA Heap.empty (cB true 20 abB)=true:=by kernel_rfl
def abC:List AV:=[(.agg [(.int .i64 0),(.bool false),(.str [69]),(.au [(.str [120]),(.str [121])] 0 2 1)])]
def abD:AV:=(.bool true)
theorem Uw:bU TP F1 D0 200 140 abC Heap.empty (cB true 20 abD)=true:=by kernel_rfl
def abE:List AV:=[(.agg [(.str [80]),(.au [(.str [120]),(.str [121])] 0 2 1),(.au [(.int .i64 0),(.bool false),(.str [69]),(.au [(.str [120]),(.str [122])] 0 2 1),(.int .i64 0),(.bool false),(.str [80]),(.au [(.str [122]),(.str [121])] 0 2 1)] 0 2 4)])]
def abF:AV:=(.au [(.str [120]),(.str [121]),(.str [122])] 0 3 1)
theorem Ux:bU TP F1 D0 200 100 abE Heap.empty (cB true 20 abF)=true:=by kernel_rfl
def abG:List AV:=[(.agg [(.int .i64 0),(.bool false),(.str [69]),(.au [(.str [120]),(.str [122])] 0 2 1)])]
def abH:AV:=(.bool true)
theorem Uy:bU TP F1 D0 200 140 abG Heap.empty (cB true 20 abH)=true:=by kernel_rfl
def abI:List AV:=[(.agg [(.int .i64 0),(.bool false),(.str [80]),(.au [(.str [122]),(.str [121])] 0 2 1)])]
def abJ:AV:=(.bool true)
theorem Uz:bU TP F1 D0 200 140 abI Heap.empty (cB true 20 abJ)=true:=by kernel_rfl
def abK:List AV:=[(.agg [(.int .i64 3),(.au [(.str [69]),(.int .i64 2),(.au [(.au [(.int .i64 0),(.int .i64 1)] 0 2 1),(.au [(.int .i64 1),(.int .i64 2)] 0 2 1)] 0 2 1)] 0 1 3)])]
def abL:AV:=(.bool true)
theorem UA:bU TP F1 D0 200 64 abK Heap.empty (cB true 20 abL)=true:=by kernel_rfl
def abM:List AV:=[(.int .i64 0),(.agg [(.str [80]),(.au [(.str [120]),(.str [121])] 0 2 1),(.au [(.int .i64 0),(.bool false),(.str [69]),(.au [(.str [120]),(.str [121])] 0 2 1)] 0 1 4)])]
def abN:AV:=(.agg [(.int .i64 0),(.str [80]),(.au [(.str [120]),(.str [121])] 0 2 1),(.au [(.int .i64 0),(.bool false),(.str [69]),(.au [(.str [120]),(.str [121])] 0 2 1)] 0 1 4),(.int .i64 2),(.au [(.int .i64 0),(.int .i64 1)] 0 2 1),(.au [(.au [(.int .i64 0),(.int .i64 1)] 0 2 1)] 0 1 1),(.au [(.int .i64 1)] 0 1 1)])
theorem UB:bU TP F1 D0 200 102 abM Heap.empty (cB true 20 abN)=true:=by kernel_rfl
def abO:List AV:=[(.int .i64 1),(.agg [(.str [80]),(.au [(.str [120]),(.str [121])] 0 2 1),(.au [(.int .i64 0),(.bool false),(.str [69]),(.au [(.str [120]),(.str [122])] 0 2 1),(.int .i64 0),(.bool false),(.str [80]),(.au [(.str [122]),(.str [121])] 0 2 1)] 0 2 4)])]
def abP:AV:=(.agg [(.int .i64 1),(.str [80]),(.au [(.str [120]),(.str [121])] 0 2 1),(.au [(.int .i64 0),(.bool false),(.str [69]),(.au [(.str [120]),(.str [122])] 0 2 1),(.int .i64 0),(.bool false),(.str [80]),(.au [(.str [122]),(.str [121])] 0 2 1)] 0 2 4),(.int .i64 3),(.au [(.int .i64 0),(.int .i64 1)] 0 2 1),(.au [(.au [(.int .i64 0),(.int .i64 2)] 0 2 1),(.au [(.int .i64 2),(.int .i64 1)] 0 2 1)] 0 2 1),(.au [(.int .i64 2),(.int .i64 2)] 0 2 1)])
theorem UC:bU TP F1 D0 200 102 abO Heap.empty (cB true 20 abP)=true:=by kernel_rfl
def abQ:List AV:=[(.agg [(.int .i64 3),(.au [(.str [69]),(.int .i64 2),(.au [(.au [(.int .i64 0),(.int .i64 1)] 0 2 1),(.au [(.int .i64 1),(.int .i64 2)] 0 2 1)] 0 2 1)] 0 1 3)])]
def abR:AV:=(.bool true)
theorem UD:bU TP F1 D0 200 64 abQ Heap.empty (cB false 20 abR)=true:=by kernel_rfl
def abS:List AV:=[(.agg [(.int .i64 3),(.au [(.str [69]),(.int .i64 2),(.au [(.au [(.int .i64 1),(.int .i64 2)] 0 2 1)] 0 1 1)] 0 1 3)])]
def abT:AV:=(.bool true)
theorem UE:bU TP F1 D0 200 64 abS Heap.empty (cB true 20 abT)=true:=by kernel_rfl
def F2:yy:=fun x=>if x=138 then some (kf (dP 20 abl abm) (jc aby abz)) else if x=100 then some (kf (dP 20 abn abo) (kf (dP 20 abr abt) (kf (jc abA abB) (jc abE abF)))) else if x=140 then some (kf (dP 20 abp abq) (kf (dP 20 abu abv) (kf (dP 20 abw abx) (kf (jc abC abD) (kf (jc abG abH) (jc abI abJ)))))) else if x=64 then some (kf (jc abK abL) (kf (dP 20 abQ abR) (jc abS abT))) else if x=102 then some (kf (jc abM abN) (jc abO abP)) else F1 x
theorem JC:iR TP F2:=by
 have hs:=ke mixed JB uq 200;intro f g hg args h K hK;unfold F2 at hg;split at hg
 ·rename_i e;subst e;cases hg;rcases cy hK with hK|hK
  ·exact bh hs Uo args h K hK
  exact cO hs (by kernel_rfl) Uu args h K hK
 split at hg
 ·rename_i e;subst e;cases hg;rcases cy hK with hK|hK
  ·exact bh hs Up args h K hK
  rcases cy hK with hK|hK
  ·exact bh hs Ur args h K hK
  rcases cy hK with hK|hK
  ·exact cO hs (by kernel_rfl) Uv args h K hK
  exact cO hs (by kernel_rfl) Ux args h K hK
 split at hg
 ·rename_i e;subst e;cases hg;rcases cy hK with hK|hK
  ·exact bh hs Uq args h K hK
  rcases cy hK with hK|hK
  ·exact bh hs Us args h K hK
  rcases cy hK with hK|hK
  ·exact bh hs Ut args h K hK
  rcases cy hK with hK|hK
  ·exact cO hs (by kernel_rfl) Uw args h K hK
  rcases cy hK with hK|hK
  ·exact cO hs (by kernel_rfl) Uy args h K hK
  exact cO hs (by kernel_rfl) Uz args h K hK
 split at hg
 ·rename_i e;subst e;cases hg;rcases cy hK with hK|hK
  ·exact cO hs (by kernel_rfl) UA args h K hK
  rcases cy hK with hK|hK
  ·exact bh hs UD args h K hK
  exact cO hs (by kernel_rfl) UE args h K hK
 split at hg
 ·rename_i e;subst e;cases hg;rcases cy hK with hK|hK
  ·exact cO hs (by kernel_rfl) UB args h K hK
  exact cO hs (by kernel_rfl) UC args h K hK
 exact JB f g hg args h K hK
def abU:List AV:=[(.str [80,40,120,32,121,41,32,58,45,32,69,40,120,32,121,41,46,10,80,40,120,32,121,41,32,58,45,32,69,40,120,32,122,41,44,32,80,40,122,32,121,41,46,10])]
def abV:AV:=(.tuple [(.au [(.str [80]),(.au [(.str [120]),(.str [121])] 0 2 1),(.au [(.int .i64 0),(.bool false),(.str [69]),(.au [(.str [120]),(.str [121])] 0 2 1)] 0 1 4),(.str [80]),(.au [(.str [120]),(.str [121])] 0 2 1),(.au [(.int .i64 0),(.bool false),(.str [69]),(.au [(.str [120]),(.str [122])] 0 2 1),(.int .i64 0),(.bool false),(.str [80]),(.au [(.str [122]),(.str [121])] 0 2 1)] 0 2 4)] 0 2 3),(.int .i64 0)])
theorem UF:bU TP F2 D0 200 44 abU Heap.empty (cB true 20 abV)=true:=by kernel_rfl
def F3:yy:=fun x=>if x=44 then some (jc abU abV) else F2 x
theorem JD:iR TP F3:=by
 have hs:=ke mixed JC uq 200;intro f g hg args h K hK;unfold F3 at hg;split at hg
 ·rename_i e;subst e;cases hg;exact cO hs (by kernel_rfl) UF args h K hK
 exact JC f g hg args h K hK
def abW:List AV:=[(.agg [(.int .i64 3),(.au [(.str [69]),(.int .i64 2),(.au [(.au [(.int .i64 0),(.int .i64 1)] 0 2 1),(.au [(.int .i64 1),(.int .i64 2)] 0 2 1)] 0 2 1)] 0 1 3)]),(.str [69]),(.au [(.int .i64 0),(.int .i64 1)] 0 2 1),(.bool false)]
def abX:AV:=(.tuple [(.agg [(.int .i64 3),(.au [(.str [69]),(.int .i64 2),(.au [(.au [(.int .i64 1),(.int .i64 2)] 0 2 1)] 0 1 1)] 0 1 3)]),(.int .i64 0)])
theorem UG:bU TP F3 D0 200 18 abW Heap.empty (cB false 20 abX)=true:=by kernel_rfl
end
end Go.AM