/- Parts of the proof. Conditions: none. -/
import Derived.Test.YtfdanacohcffmaaGreatKo18
set_option linter.unusedVariables false
namespace Go.AM
open List Nat Bool Option
open Go Go.Proofs
noncomputable section
variable {K:Out->Heap->Bool} {h:Heap} {J:AX->St->Bool} {e:Env} {a0 a1 a2:AV}
noncomputable def F.bZ.L0:=partOf (aj Tryz.f42) [1,1,0,1,0,0]
noncomputable def F.bZ.cS(K:Out->Heap->Bool):=(bg 0 (cY false (EV (partOf (aj Tryz.f42) [1,1,1])) (RL Tryz.f42 K)))
noncomputable def F.bZ.L1:=partOf (aj Tryz.f42) [1,1,0,1,0,0,1,0,0,1,1,0,0]
noncomputable def F.bZ.jP(J:AX->St->Bool):=(bg 2 (bg 1 (cY false (EV (partOf (aj Tryz.f42) [1,1,0,1,0,0,1,1])) J)))
noncomputable def F.bZ.L2:=partOf (aj Tryz.f42) [1,1,0,1,0,0,1,0,0,1,1,0,0,1,0,0,1,1,1,0,0]
noncomputable def F.bZ.wD(J:AX->St->Bool):=(bg 4 (bg 3 (cY false (EV (partOf (aj Tryz.f42) [1,1,0,1,0,0,1,0,0,1,1,0,0,1,1])) J)))
theorem F.bZ.aU:EV F.bZ.L0 ⟨e,89,[],h⟩ J=(ag (bX .slice (e 0) h) fun a=>ag (aI .lss (e 5) a) fun b=>let Q1:=(af (af (af (af e 8 (e 5)) 9 (e 0)) 10 a) 11 b);aA b (ag (dM 2 (e 0) (e 5)) fun c=>ag (bT 1 c) fun d=>ag (ah none d h) fun f=>ag (bX .slice f h) fun g=>ag (aI .gtr g (.int .i64 12)) fun i=>let Q2:=(af (af (af (af (af (af (af Q1 14 (e 0)) 15 (e 5)) 16 c) 17 d) 18 f) 19 g) 20 i);aA i (J .ret ⟨(af Q2 2 (.bool false)),89,[],h⟩) (bV (EV F.bZ.L1) ⟨(af Q2 6 (.int .i64 0)),89,[],h⟩ (F.bZ.jP J))) (J (.exit 0) ⟨Q1,89,[],h⟩)):=by kernel_rfl
theorem F.bZ.aG:F.bZ.cS K (.exit 0) ⟨e,89,[],h⟩=(ag (aI .leq (e 4) (.int .i64 20000)) fun a=>K (.ret a) h):=by kernel_rfl
theorem F.bZ.bz:F.bZ.cS K .ret ⟨e,89,[],h⟩=(K (.ret (e 2)) h):=by kernel_rfl
theorem F.bZ.dm:EV F.bZ.L1 ⟨e,89,[],h⟩ J=(ag (dM 2 (e 0) (e 5)) fun w=>ag (bT 1 w) fun x=>ag (ah none x h) fun d=>ag (bX .slice d h) fun f=>ag (aI .lss (e 6) f) fun g=>let Q1:=(af (af (af (af (af (af (af (af e 21 (e 6)) 22 (e 0)) 23 (e 5)) 24 w) 25 x) 26 d) 27 f) 28 g);aA g (ag (dM 2 (e 0) (e 5)) fun i=>ag (bT 1 i) fun j=>ag (ah none j h) fun k=>ag (dM 3 k (e 6)) fun l=>ag (bT 2 l) fun m=>ag (ah none m h) fun n=>ag (bX .slice n h) fun o=>ag (aI .add (e 3) o) fun a=>ag (aI .gtr a (.int .i64 1500)) fun b=>let Q2:=(af (af (af (af (af (af (af (af (af (af (af (af (af (af (af (af Q1 31 (e 3)) 32 (e 0)) 33 (e 5)) 34 i) 35 j) 36 k) 37 (e 6)) 38 l) 39 m) 40 n) 41 o) 42 a) 3 a) 43 a) 44 b) 45 b);aA b (J .ret ⟨(af (af (af (af (af (af (af (af (af (af (af (af (af (af (af (af (af (af (af (af (af (af (af (af Q2 45 (.bool true)) 46 bJ) 45 (.bool true)) 47 bJ) 45 (.bool true)) 48 bJ) 45 (.bool true)) 49 bJ) 45 (.bool true)) 50 bJ) 45 (.bool true)) 51 bJ) 45 (.bool true)) 52 bJ) 45 (.bool true)) 53 bJ) 45 (.bool true)) 54 bJ) 45 (.bool true)) 55 bJ) 45 (.bool true)) 56 bJ) 57 (.bool true)) 2 (.bool false)),89,[],h⟩) (ag (dM 2 (e 0) (e 5)) fun p=>ag (bT 1 p) fun q=>ag (ah none q h) fun r=>ag (dM 3 r (e 6)) fun s=>ag (bT 0 s) fun t=>ag (ah none t h) fun u=>ag (bX .str u h) fun v=>ag (aI .gtr v (.int .i64 1000)) fun c=>let Q3:=(af (af (af (af (af (af (af (af (af (af (af (af (af (af (af (af (af (af (af (af (af (af (af Q2 45 (.bool false)) 46 (e 0)) 45 (.bool false)) 47 (e 5)) 45 (.bool false)) 48 p) 45 (.bool false)) 49 q) 45 (.bool false)) 50 r) 45 (.bool false)) 51 (e 6)) 45 (.bool false)) 52 s) 45 (.bool false)) 53 t) 45 (.bool false)) 54 u) 45 (.bool false)) 55 v) 45 (.bool false)) 56 c) 57 c);aA c (J .ret ⟨(af Q3 2 (.bool false)),89,[],h⟩) (bV (EV F.bZ.L2) ⟨(af Q3 7 (.int .i64 0)),89,[],h⟩ (F.bZ.wD J)))) (J (.exit 2) ⟨Q1,89,[],h⟩)):=by kernel_rfl
theorem F.bZ.cx:F.bZ.jP J (.exit 2) ⟨e,89,[],h⟩=(ag (aI .add (e 5) (.int .i64 1)) fun a=>J .normal ⟨(af (af (af e 12 (e 5)) 13 a) 5 a),89,[],h⟩):=by kernel_rfl
theorem F.bZ.iR:F.bZ.jP J .ret ⟨e,89,[],h⟩=(J .ret ⟨e,89,[],h⟩):=by kernel_rfl
theorem F.bZ.kM:EV F.bZ.L2 ⟨e,89,[],h⟩ J=(ag (dM 2 (e 0) (e 5)) fun a=>ag (bT 1 a) fun b=>ag (ah none b h) fun c=>ag (dM 3 c (e 6)) fun d=>ag (bT 2 d) fun f=>ag (ah none f h) fun g=>ag (bX .slice g h) fun i=>ag (aI .lss (e 7) i) fun j=>let Q1:=(af (af (af (af (af (af (af (af (af (af (af (af e 58 (e 7)) 59 (e 0)) 60 (e 5)) 61 a) 62 b) 63 c) 64 (e 6)) 65 d) 66 f) 67 g) 68 i) 69 j);aA j (ag (dM 2 (e 0) (e 5)) fun k=>ag (bT 1 k) fun l=>ag (ah none l h) fun m=>ag (dM 3 m (e 6)) fun n=>ag (bT 2 n) fun o=>ag (ah none o h) fun p=>ag (dM 1 p (e 7)) fun q=>ag (ah none q h) fun r=>ag (bX .slice r h) fun s=>ag (aI .add (e 4) s) fun t=>ag (aI .add (e 7) (.int .i64 1)) fun u=>J .normal ⟨(af (af (af (af (af (af (af (af (af (af (af (af (af (af (af (af (af (af (af Q1 72 (e 4)) 73 (e 0)) 74 (e 5)) 75 k) 76 l) 77 m) 78 (e 6)) 79 n) 80 o) 81 p) 82 (e 7)) 83 q) 84 r) 85 s) 86 t) 4 t) 70 (e 7)) 71 u) 7 u),89,[],h⟩) (J (.exit 4) ⟨Q1,89,[],h⟩)):=by kernel_rfl
theorem F.bZ.ic:F.bZ.wD J (.exit 4) ⟨e,89,[],h⟩=(ag (aI .add (e 6) (.int .i64 1)) fun a=>J .normal ⟨(af (af (af e 29 (e 6)) 30 a) 6 a),89,[],h⟩):=by kernel_rfl
theorem F.GC:EV (aj Tryz.f42) ⟨aD [a0],89,[],h⟩ (RL Tryz.f42 K)=(bV (EV F.bZ.L0) ⟨(af (af (af (af (aD [a0]) 2 (.bool false)) 3 (.int .i64 0)) 4 (.int .i64 0)) 5 (.int .i64 0)),89,[],h⟩ (F.bZ.cS K)):=by kernel_rfl
theorem F.En(hh:EV (aj Tryz.f42) ⟨aD [a0],89,[],h⟩ (RL Tryz.f42 K)=true):Sem TP 42 [a0] h K:=
 SB Tryz.func42 rfl (by decide) (by kernel_rfl) hh
noncomputable def F.cr.L0:=partOf (aj Tryz.f66) [1,1,0,1,0,0]
noncomputable def F.cr.cS(K:Out->Heap->Bool):=(bg 0 (cY false (EV (partOf (aj Tryz.f66) [1,1,1])) (RL Tryz.f66 K)))
noncomputable def F.cr.L1:=partOf (aj Tryz.f66) [1,1,0,1,0,0,1,0,0,1,1,0,0]
noncomputable def F.cr.jP(J:AX->St->Bool):=(bg 2 (bg 1 (cY false (EV (partOf (aj Tryz.f66) [1,1,0,1,0,0,1,1])) J)))
theorem F.cr.aU:EV F.cr.L0 ⟨e,53,[],h⟩ J=(ag (bT 1 (e 1)) fun a=>ag (ah none a h) fun b=>ag (bX .slice b h) fun c=>ag (aI .lss (e 3) c) fun d=>let Q1:=(af (af (af (af (af e 19 (e 3)) 20 a) 21 b) 22 c) 23 d);aA d (ag (bT 0 (e 1)) fun f=>ag (ah none f h) fun g=>ag (bT 1 (e 1)) fun i=>ag (ah none i h) fun j=>ag (dM 3 j (e 3)) fun k=>ag (ah (some 3) k h) fun l=>aC TP 115 [g,l] h (bK (fun m n=>ag (kX .not m) fun o=>let Q2:=(af (af (af (af (af (af (af (af (af Q1 26 f) 27 g) 28 i) 29 j) 30 (e 3)) 31 k) 32 l) 33 m) 34 o);aA o (J .ret ⟨(af Q2 2 (.bool false)),53,[],n⟩) (bV (EV F.cr.L1) ⟨(af Q2 4 (.int .i64 0)),53,[],n⟩ (F.cr.jP J))) (fun _ _=>false))) (J (.exit 0) ⟨Q1,53,[],h⟩)):=by kernel_rfl
theorem F.cr.aG:F.cr.cS K (.exit 0) ⟨e,53,[],h⟩=(K (.ret (.bool true)) h):=by kernel_rfl
theorem F.cr.bz:F.cr.cS K .ret ⟨e,53,[],h⟩=(K (.ret (e 2)) h):=by kernel_rfl
theorem F.cr.dm:EV F.cr.L1 ⟨e,53,[],h⟩ J=(ag (aI .lss (e 4) (e 3)) fun a=>let Q1:=(af (af (af e 35 (e 4)) 36 (e 3)) 37 a);aA a (ag (bT 1 (e 1)) fun b=>ag (ah none b h) fun c=>ag (dM 3 c (e 4)) fun d=>ag (bT 0 d) fun f=>ag (ah none f h) fun g=>ag (bT 1 (e 1)) fun i=>ag (ah none i h) fun j=>ag (dM 3 j (e 3)) fun k=>ag (bT 0 k) fun l=>ag (ah none l h) fun m=>ag (jC .string g m) fun n=>let Q2:=(af (af (af (af (af (af (af (af (af (af (af (af (af Q1 40 b) 41 c) 42 (e 4)) 43 d) 44 f) 45 g) 46 i) 47 j) 48 (e 3)) 49 k) 50 l) 51 m) 52 n);aA n (J .ret ⟨(af Q2 2 (.bool false)),53,[],h⟩) (ag (aI .add (e 4) (.int .i64 1)) fun o=>J .normal ⟨(af (af (af Q2 38 (e 4)) 39 o) 4 o),53,[],h⟩)) (J (.exit 2) ⟨Q1,53,[],h⟩)):=by kernel_rfl
theorem F.cr.cx:F.cr.jP J (.exit 2) ⟨e,53,[],h⟩=(ag (aI .add (e 3) (.int .i64 1)) fun a=>J .normal ⟨(af (af (af e 24 (e 3)) 25 a) 3 a),53,[],h⟩):=by kernel_rfl
theorem F.cr.iR:F.cr.jP J .ret ⟨e,53,[],h⟩=(J .ret ⟨e,53,[],h⟩):=by kernel_rfl
theorem F.CF:EV (aj Tryz.f66) ⟨aD [a0],53,[],h⟩ (RL Tryz.f66 K)=(ag (eY a0) fun a=>ag (bT 0 (.ptr (Heap.next h) 0)) fun f=>ag (ah none f (Heap.alloc h (.cells a))) fun g=>ag (aI .lss g (.int .i64 1)) fun d=>aA d (K (.ret (.bool false)) (Heap.alloc h (.cells a))) (ag (bT 0 (.ptr (Heap.next h) 0)) fun i=>ag (ah none i (Heap.alloc h (.cells a))) fun j=>ag (aI .gtr j (.int .i64 64)) fun c=>aA c (K (.ret (.bool false)) (Heap.alloc h (.cells a))) (ag (bT 1 (.ptr (Heap.next h) 0)) fun k=>ag (ah none k (Heap.alloc h (.cells a))) fun l=>ag (bX .slice l (Heap.alloc h (.cells a))) fun m=>ag (aI .gtr m (.int .i64 8)) fun b=>aA b (K (.ret (.bool false)) (Heap.alloc h (.cells a))) (bV (EV F.cr.L0) ⟨(af (af (af (af (af (af (af (af (af (af (af (af (af (af (af (af (af (af (af (af (af (af (af (af (aD [a0]) 1 (.ptr (Heap.next h) 0)) 2 (.bool false)) 5 f) 6 g) 7 d) 8 d) 8 (.bool false)) 9 i) 8 (.bool false)) 10 j) 8 (.bool false)) 11 c) 12 c) 13 c) 13 (.bool false)) 14 k) 13 (.bool false)) 15 l) 13 (.bool false)) 16 m) 13 (.bool false)) 17 b) 18 b) 3 (.int .i64 0)),53,[],(Heap.alloc h (.cells a))⟩ (F.cr.cS K))))):=by kernel_rfl
theorem F.AT(hh:EV (aj Tryz.f66) ⟨aD [a0],53,[],h⟩ (RL Tryz.f66 K)=true):Sem TP 66 [a0] h K:=
 SB Tryz.func66 rfl (by decide) (by kernel_rfl) hh
noncomputable def F.eT.L0:=partOf (aj Tryz.f67) [1,0,1,0,0]
noncomputable def F.eT.cS(K:Out->Heap->Bool):=(bg 0 (cY false (EV (partOf (aj Tryz.f67) [1,1])) (RL Tryz.f67 K)))
theorem F.eT.aU:EV F.eT.L0 ⟨e,36,[],h⟩ J=(ag (bX .slice (e 1) h) fun p=>ag (aI .lss (e 5) p) fun q=>let Q1:=(af (af (af (af e 7 (e 5)) 8 (e 1)) 9 p) 10 q);aA q (ag (ah (some 2) (e 2) h) fun r=>ag (dM 2 (e 1) (e 5)) fun s=>ag (bT 0 s) fun t=>ag (ah none t h) fun u=>aC TP 69 [r,u] h (bK (fun b c=>ag (aI .lss b (.int .i64 0)) fun o=>let Q2:=(af (af (af (af (af (af (af (af (af (af (af Q1 13 r) 14 (e 1)) 15 (e 5)) 16 s) 17 t) 18 u) 19 b) 6 b) 20 b) 21 o) 22 o);aA o (J .ret ⟨(af (af (af (af (af (af (af (af (af (af (af (af (af (af (af (af (af (af (af (af (af (af (af (af (af (af Q2 22 (.bool true)) 23 bJ) 22 (.bool true)) 24 bJ) 22 (.bool true)) 25 bJ) 22 (.bool true)) 26 bJ) 22 (.bool true)) 27 bJ) 22 (.bool true)) 28 bJ) 22 (.bool true)) 29 bJ) 22 (.bool true)) 30 bJ) 22 (.bool true)) 31 bJ) 22 (.bool true)) 32 bJ) 22 (.bool true)) 33 bJ) 22 (.bool true)) 34 bJ) 35 (.bool true)) 4 (.bool false)),36,[],c⟩) (ag (bT 1 (e 2)) fun d=>ag (ah none d c) fun f=>ag (dM 3 f b) fun g=>ag (bT 1 g) fun i=>ag (ah none i c) fun j=>ag (dM 2 (e 1) (e 5)) fun k=>ag (bT 1 k) fun l=>ag (ah none l c) fun m=>ag (pM (.int .i64) j m) fun a=>let Q3:=(af (af (af (af (af (af (af (af (af (af (af (af (af (af (af (af (af (af (af (af (af (af (af (af (af Q2 22 (.bool false)) 23 d) 22 (.bool false)) 24 f) 22 (.bool false)) 25 b) 22 (.bool false)) 26 g) 22 (.bool false)) 27 i) 22 (.bool false)) 28 j) 22 (.bool false)) 29 (e 1)) 22 (.bool false)) 30 (e 5)) 22 (.bool false)) 31 k) 22 (.bool false)) 32 l) 22 (.bool false)) 33 m) 22 (.bool false)) 34 a) 35 a);aA a (J .ret ⟨(af Q3 4 (.bool false)),36,[],c⟩) (ag (aI .add (e 5) (.int .i64 1)) fun n=>J .normal ⟨(af (af (af Q3 11 (e 5)) 12 n) 5 n),36,[],c⟩))) (fun _ _=>false))) (J (.exit 0) ⟨Q1,36,[],h⟩)):=by kernel_rfl
theorem F.eT.aG:F.eT.cS K (.exit 0) ⟨e,36,[],h⟩=(K (.ret (.bool true)) h):=by kernel_rfl
theorem F.eT.bz:F.eT.cS K .ret ⟨e,36,[],h⟩=(K (.ret (e 4)) h):=by kernel_rfl
theorem F.Eo:EV (aj Tryz.f67) ⟨aD [a0,a1],36,[],h⟩ (RL Tryz.f67 K)=(ag (eY a0) fun a=>bV (EV F.eT.L0) ⟨(af (af (af (aD [a0,a1]) 2 (.ptr (Heap.next h) 0)) 4 (.bool false)) 5 (.int .i64 0)),36,[],(Heap.alloc h (.cells a))⟩ (F.eT.cS K)):=by kernel_rfl
theorem F.CG(hh:EV (aj Tryz.f67) ⟨aD [a0,a1],36,[],h⟩ (RL Tryz.f67 K)=true):Sem TP 67 [a0,a1] h K:=
 SB Tryz.func67 rfl (by decide) (by kernel_rfl) hh
noncomputable def F.eU.L0:=partOf (aj Tryz.f69) [1,0,1,0,0]
noncomputable def F.eU.cS(K:Out->Heap->Bool):=(bg 0 (cY false (EV (partOf (aj Tryz.f69) [1,1])) (RL Tryz.f69 K)))
theorem F.eU.aU:EV F.eU.L0 ⟨e,22,[],h⟩ J=(ag (bT 1 (e 2)) fun c=>ag (ah none c h) fun d=>ag (bX .slice d h) fun f=>ag (aI .lss (e 5) f) fun g=>let Q1:=(af (af (af (af (af e 6 (e 5)) 7 c) 8 d) 9 f) 10 g);aA g (ag (bT 1 (e 2)) fun i=>ag (ah none i h) fun j=>ag (dM 3 j (e 5)) fun k=>ag (bT 0 k) fun l=>ag (ah none l h) fun m=>ag (jC .string m (e 1)) fun a=>let Q2:=(af (af (af (af (af (af (af (af Q1 13 i) 14 j) 15 (e 5)) 16 k) 17 l) 18 m) 19 (e 1)) 20 a);aA a (J .ret ⟨(af (af Q2 21 (e 5)) 4 (e 5)),22,[],h⟩) (ag (aI .add (e 5) (.int .i64 1)) fun b=>J .normal ⟨(af (af (af Q2 11 (e 5)) 12 b) 5 b),22,[],h⟩)) (J (.exit 0) ⟨Q1,22,[],h⟩)):=by kernel_rfl
theorem F.eU.aG:F.eU.cS K (.exit 0) ⟨e,22,[],h⟩=(K (.ret (.int .i64 (-1))) h):=by kernel_rfl
theorem F.eU.bz:F.eU.cS K .ret ⟨e,22,[],h⟩=(K (.ret (e 4)) h):=by kernel_rfl
theorem F.Er:EV (aj Tryz.f69) ⟨aD [a0,a1],22,[],h⟩ (RL Tryz.f69 K)=(ag (eY a0) fun a=>bV (EV F.eU.L0) ⟨(af (af (af (aD [a0,a1]) 2 (.ptr (Heap.next h) 0)) 4 (.int .i64 0)) 5 (.int .i64 0)),22,[],(Heap.alloc h (.cells a))⟩ (F.eU.cS K)):=by kernel_rfl
theorem F.CH(hh:EV (aj Tryz.f69) ⟨aD [a0,a1],22,[],h⟩ (RL Tryz.f69 K)=true):Sem TP 69 [a0,a1] h K:=
 SB Tryz.func69 rfl (by decide) (by kernel_rfl) hh
noncomputable def F.g8.L0:=partOf (aj Tryz.f155) [1,1,0,1,0,0]
noncomputable def F.g8.cS(K:Out->Heap->Bool):=(bg 0 (cY false (EV (partOf (aj Tryz.f155) [1,1,1])) (RL Tryz.f155 K)))
theorem F.g8.aU:EV F.g8.L0 ⟨e,20,[],h⟩ J=(ag (aI .lss (e 6) (e 1)) fun a=>let Q1:=(af (af (af (af e 7 (e 6)) 8 (e 1)) 9 a) 10 a);aA a (ag (aI .leq (e 5) (.int .i64 4096)) fun b=>let Q2:=(af (af (af (af (af Q1 10 (.bool true)) 11 (e 5)) 10 (.bool true)) 12 b) 13 b);aA b (ag (aI .mul (e 5) (e 0)) fun c=>ag (aI .add (e 6) (.int .i64 1)) fun d=>J .normal ⟨(af (af (af (af (af (af (af Q2 16 (e 5)) 17 (e 0)) 18 c) 5 c) 14 (e 6)) 15 d) 6 d),20,[],h⟩) (J (.exit 0) ⟨Q2,20,[],h⟩)) (J (.exit 0) ⟨(af (af (af (af (af Q1 10 (.bool false)) 11 bJ) 10 (.bool false)) 12 bJ) 13 (.bool false)),20,[],h⟩)):=by kernel_rfl
theorem F.g8.aG:F.g8.cS K (.exit 0) ⟨e,20,[],h⟩=(K (.ret (e 5)) h):=by kernel_rfl
theorem F.GD:EV (aj Tryz.f155) ⟨aD [a0,a1],20,[],h⟩ (RL Tryz.f155 K)=(bV (EV F.g8.L0) ⟨(af (af (af (aD [a0,a1]) 4 (.int .i64 0)) 5 (.int .i64 1)) 6 (.int .i64 0)),20,[],h⟩ (F.g8.cS K)):=by kernel_rfl
theorem F.Es(hh:EV (aj Tryz.f155) ⟨aD [a0,a1],20,[],h⟩ (RL Tryz.f155 K)=true):Sem TP 155 [a0,a1] h K:=
 SB Tryz.func155 rfl (by decide) (by kernel_rfl) hh
noncomputable def F.dJ.L0:=partOf (aj Tryz.f64) [1,1,0,1,0,0]
noncomputable def F.dJ.cS(K:Out->Heap->Bool):=(bg 0 (cY false (EV (partOf (aj Tryz.f64) [1,1,1])) (RL Tryz.f64 K)))
theorem F.dJ.aU:EV F.dJ.L0 ⟨e,63,[],h⟩ J=(ag (aI .lss (e 22) (e 21)) fun y=>let Q1:=(af e 23 y);aA y (ag (dM 3 (e 20) (e 22)) fun g=>ag (ah (some 3) g h) fun i=>ag (aZ 3 (.ptr (Heap.next h) 0) i (Heap.alloc h (.cells [(.str []),(.int .i64 0),.ay]))) fun z=>ag (bT 0 (.ptr (Heap.next h) 0)) fun j=>ag (ah none j z) fun k=>aC TP 107 [k] z (bK (fun A a=>ag (kX .not A) fun l=>let Q2:=(af (af (af (af (af (af (af (af (af (af Q1 24 (e 22)) 25 g) 26 i) 4 (.ptr (Heap.next h) 0)) 3 (e 22)) 27 j) 28 k) 29 A) 30 l) 31 l);aA l (J .ret ⟨(af (af (af (af (af (af (af (af (af (af (af (af (af (af (af (af (af (af (af (af (af (af (af (af (af (af (af (af (af (af (af (af (af (af (af (af (af (af (af (af (af (af Q2 31 (.bool true)) 32 bJ) 31 (.bool true)) 33 bJ) 31 (.bool true)) 34 bJ) 35 (.bool true)) 36 (.bool true)) 36 (.bool true)) 37 bJ) 36 (.bool true)) 38 bJ) 36 (.bool true)) 39 bJ) 40 (.bool true)) 41 (.bool true)) 41 (.bool true)) 42 bJ) 41 (.bool true)) 43 bJ) 41 (.bool true)) 44 bJ) 41 (.bool true)) 45 bJ) 41 (.bool true)) 46 bJ) 41 (.bool true)) 47 bJ) 48 (.bool true)) 49 (.bool true)) 49 (.bool true)) 50 bJ) 49 (.bool true)) 51 bJ) 49 (.bool true)) 52 bJ) 49 (.bool true)) 53 bJ) 49 (.bool true)) 54 bJ) 55 (.bool true)) 2 (.bool false)),63,[],a⟩) (ag (bT 1 (.ptr (Heap.next h) 0)) fun B=>ag (ah none B a) fun C=>ag (aI .lss C (.int .i64 0)) fun b=>let Q3:=(af (af (af (af (af (af (af (af Q2 31 (.bool false)) 32 B) 31 (.bool false)) 33 C) 31 (.bool false)) 34 b) 35 b) 36 b);aA b (J .ret ⟨(af (af (af (af (af (af (af (af (af (af (af (af (af (af (af (af (af (af (af (af (af (af (af (af (af (af (af (af (af (af (af (af (af (af Q3 36 (.bool true)) 37 bJ) 36 (.bool true)) 38 bJ) 36 (.bool true)) 39 bJ) 40 (.bool true)) 41 (.bool true)) 41 (.bool true)) 42 bJ) 41 (.bool true)) 43 bJ) 41 (.bool true)) 44 bJ) 41 (.bool true)) 45 bJ) 41 (.bool true)) 46 bJ) 41 (.bool true)) 47 bJ) 48 (.bool true)) 49 (.bool true)) 49 (.bool true)) 50 bJ) 49 (.bool true)) 51 bJ) 49 (.bool true)) 52 bJ) 49 (.bool true)) 53 bJ) 49 (.bool true)) 54 bJ) 55 (.bool true)) 2 (.bool false)),63,[],a⟩) (ag (bT 1 (.ptr (Heap.next h) 0)) fun D=>ag (ah none D a) fun E=>ag (aI .gtr E (.int .i64 12)) fun c=>let Q4:=(af (af (af (af (af (af (af (af Q3 36 (.bool false)) 37 D) 36 (.bool false)) 38 E) 36 (.bool false)) 39 c) 40 c) 41 c);aA c (J .ret ⟨(af (af (af (af (af (af (af (af (af (af (af (af (af (af (af (af (af (af (af (af (af (af (af (af (af (af Q4 41 (.bool true)) 42 bJ) 41 (.bool true)) 43 bJ) 41 (.bool true)) 44 bJ) 41 (.bool true)) 45 bJ) 41 (.bool true)) 46 bJ) 41 (.bool true)) 47 bJ) 48 (.bool true)) 49 (.bool true)) 49 (.bool true)) 50 bJ) 49 (.bool true)) 51 bJ) 49 (.bool true)) 52 bJ) 49 (.bool true)) 53 bJ) 49 (.bool true)) 54 bJ) 55 (.bool true)) 2 (.bool false)),63,[],a⟩) (ag (bT 0 (e 1)) fun m=>ag (ah none m a) fun n=>ag (bT 1 (.ptr (Heap.next h) 0)) fun o=>ag (ah none o a) fun p=>aC TP 108 [n,p,(.int .i64 4096)] a (bK (fun G d=>ag (aI .lss G (.int .i64 0)) fun f=>let Q5:=(af (af (af (af (af (af (af (af (af (af (af (af (af (af Q4 41 (.bool false)) 42 m) 41 (.bool false)) 43 n) 41 (.bool false)) 44 o) 41 (.bool false)) 45 p) 41 (.bool false)) 46 G) 41 (.bool false)) 47 f) 48 f) 49 f);aA f (J .ret ⟨(af (af (af (af (af (af (af (af (af (af (af (af Q5 49 (.bool true)) 50 bJ) 49 (.bool true)) 51 bJ) 49 (.bool true)) 52 bJ) 49 (.bool true)) 53 bJ) 49 (.bool true)) 54 bJ) 55 (.bool true)) 2 (.bool false)),63,[],d⟩) (ag (bT 0 (e 1)) fun q=>ag (ah none q d) fun r=>ag (ah (some 3) (.ptr (Heap.next h) 0) d) fun s=>aC TP 109 [r,s] d (bK (fun I t=>ag (kX .not I) fun u=>let Q6:=(af (af (af (af (af (af (af (af (af (af (af Q5 49 (.bool false)) 50 q) 49 (.bool false)) 51 r) 49 (.bool false)) 52 s) 49 (.bool false)) 53 I) 49 (.bool false)) 54 u) 55 u);aA u (J .ret ⟨(af Q6 2 (.bool false)),63,[],t⟩) (ag (bT 1 (e 1)) fun v=>ag (ah none v t) fun w=>ag (iT (some 3) w none (some (e 22))) fun x=>aC TP 110 [x,(.func 111 [] [(.ptr (Heap.next h) 0)])] t (bK (fun L M=>let Q7:=(af (af (af (af (af (af Q6 56 v) 57 w) 58 (e 22)) 59 x) 60 (.func 111 [] [(.ptr (Heap.next h) 0)])) 61 L);aA L (J .ret ⟨(af Q7 2 (.bool false)),63,[],M⟩) (ag (aI .add (e 22) (.int .i64 1)) fun N=>J .normal ⟨(af (af Q7 62 N) 22 N),63,[],M⟩)) (fun O P=>J (.panic O) ⟨(af (af (af (af (af Q6 56 v) 57 w) 58 (e 22)) 59 x) 60 (.func 111 [] [(.ptr (Heap.next h) 0)])),63,[],P⟩)))) (fun R S=>J (.panic R) ⟨(af (af (af (af (af (af (af Q5 49 (.bool false)) 50 q) 49 (.bool false)) 51 r) 49 (.bool false)) 52 s) 49 (.bool false)),63,[],S⟩)))) (fun T U=>J (.panic T) ⟨(af (af (af (af (af (af (af (af (af Q4 41 (.bool false)) 42 m) 41 (.bool false)) 43 n) 41 (.bool false)) 44 o) 41 (.bool false)) 45 p) 41 (.bool false)),63,[],U⟩)))))) (fun V W=>J (.panic V) ⟨(af (af (af (af (af (af (af Q1 24 (e 22)) 25 g) 26 i) 4 (.ptr (Heap.next h) 0)) 3 (e 22)) 27 j) 28 k),63,[],W⟩))) (J (.exit 0) ⟨Q1,63,[],h⟩)):=by kernel_rfl
theorem F.dJ.aG:F.dJ.cS K (.exit 0) ⟨e,63,[],h⟩=(K (.ret (.bool true)) h):=by kernel_rfl
theorem F.dJ.bz:F.dJ.cS K .ret ⟨e,63,[],h⟩=(K (.ret (e 2)) h):=by kernel_rfl
theorem F.CI:EV (aj Tryz.f64) ⟨aD [a0],63,[],h⟩ (RL Tryz.f64 K)=(ag (eY a0) fun a=>ag (bT 0 (.ptr (Heap.next h) 0)) fun j=>ag (ah none j (Heap.alloc h (.cells a))) fun k=>ag (aI .lss k (.int .i64 1)) fun g=>aA g (K (.ret (.bool false)) (Heap.alloc h (.cells a))) (ag (bT 0 (.ptr (Heap.next h) 0)) fun l=>ag (ah none l (Heap.alloc h (.cells a))) fun m=>ag (aI .gtr m (.int .i64 64)) fun f=>aA f (K (.ret (.bool false)) (Heap.alloc h (.cells a))) (ag (bT 1 (.ptr (Heap.next h) 0)) fun n=>ag (ah none n (Heap.alloc h (.cells a))) fun o=>ag (bX .slice o (Heap.alloc h (.cells a))) fun p=>ag (aI .gtr p (.int .i64 8)) fun b=>aA b (K (.ret (.bool false)) (Heap.alloc h (.cells a))) (ag (bT 1 (.ptr (Heap.next h) 0)) fun c=>ag (ah none c (Heap.alloc h (.cells a))) fun d=>ag (bX .slice d (Heap.alloc h (.cells a))) fun i=>bV (EV F.dJ.L0) ⟨(af (af (af (af (af (af (af (af (af (af (af (af (af (af (af (af (af (af (af (af (af (af (af (af (af (af (af (aD [a0]) 1 (.ptr (Heap.next h) 0)) 2 (.bool false)) 5 j) 6 k) 7 g) 8 g) 8 (.bool false)) 9 l) 8 (.bool false)) 10 m) 8 (.bool false)) 11 f) 12 f) 13 f) 13 (.bool false)) 14 n) 13 (.bool false)) 15 o) 13 (.bool false)) 16 p) 13 (.bool false)) 17 b) 18 b) 19 c) 20 d) 21 i) 22 (.int .i64 0)),63,[],(Heap.alloc h (.cells a))⟩ (F.dJ.cS K))))):=by kernel_rfl
theorem F.AU(hh:EV (aj Tryz.f64) ⟨aD [a0],63,[],h⟩ (RL Tryz.f64 K)=true):Sem TP 64 [a0] h K:=
 SB Tryz.func64 rfl (by decide) (by kernel_rfl) hh
theorem F.Et:EV (aj Tryz.f53) ⟨aD [a0,a1,a2],11,[],h⟩ (RL Tryz.f53 K)=(ag (eY a0) fun a=>ag (eY a1) fun b=>ag (eY a2) fun c=>ag (bT 1 (.ptr (Heap.next h) 0)) fun d=>ag (ah none d (Heap.alloc (Heap.alloc (Heap.alloc h (.cells a)) (.cells b)) (.cells c))) fun f=>aC TP 76 [f,(.func 94 [] [(.ptr (Heap.next (Heap.alloc h (.cells a))) 0),(.ptr (Heap.next (Heap.alloc (Heap.alloc h (.cells a)) (.cells b))) 0)])] (Heap.alloc (Heap.alloc (Heap.alloc h (.cells a)) (.cells b)) (.cells c)) (bK (fun g i=>K (.ret g) i) (fun j k=>K (.panic j) k))):=by kernel_rfl
theorem F.CJ(hh:EV (aj Tryz.f53) ⟨aD [a0,a1,a2],11,[],h⟩ (RL Tryz.f53 K)=true):Sem TP 53 [a0,a1,a2] h K:=
 SB Tryz.func53 rfl (by decide) (by kernel_rfl) hh
noncomputable def F.bE.L0:=partOf (aj Tryz.f55) [1,0,1,0,0]
noncomputable def F.bE.cS(K:Out->Heap->Bool):=(bg 0 (cY false (EV (partOf (aj Tryz.f55) [1,1])) (RL Tryz.f55 K)))
theorem F.bE.aU:EV F.bE.L0 ⟨e,36,[],h⟩ J=(ag (aI .lss (e 11) (e 10)) fun k=>let Q1:=(af e 12 k);aA k (ag (dM 1 (e 9) (e 11)) fun l=>ag (ah none l h) fun c=>ag (bX .slice (e 1) h) fun m=>ag (aI .geq (e 11) m) fun n=>let Q2:=(af (af (af (af (af (af (af (af (af Q1 13 (e 11)) 14 l) 15 c) 5 (e 11)) 6 c) 16 (e 11)) 17 (e 1)) 18 m) 19 n);aA n (J .ret ⟨(af Q2 4 (.int .i64 1)),36,[],h⟩) (ag (dM 1 (e 1) (e 11)) fun g=>ag (ah none g h) fun a=>aC TP 95 [c,a] h (bK (fun b o=>ag (pM (.int .i64) b (.int .i64 0)) fun d=>let Q3:=(af (af (af (af (af (af (af (af (af (af (af Q2 20 (e 1)) 21 (e 11)) 22 g) 23 a) 7 a) 24 c) 25 a) 26 b) 8 b) 27 b) 28 d);aA d (J .ret ⟨(af (af Q3 29 b) 4 b),36,[],o⟩) (ag (aI .add (e 11) (.int .i64 1)) fun f=>J .normal ⟨(af (af Q3 30 f) 11 f),36,[],o⟩)) (fun i j=>J (.panic i) ⟨(af (af (af (af (af (af (af Q2 20 (e 1)) 21 (e 11)) 22 g) 23 a) 7 a) 24 c) 25 a),36,[],j⟩)))) (J (.exit 0) ⟨Q1,36,[],h⟩)):=by kernel_rfl
theorem F.bE.aG:F.bE.cS K (.exit 0) ⟨e,36,[],h⟩=(ag (bX .slice (e 0) h) fun a=>ag (bX .slice (e 1) h) fun b=>ag (aI .lss a b) fun c=>aA c (K (.ret (.int .i64 (-1))) h) (K (.ret (.int .i64 0)) h)):=by kernel_rfl
theorem F.bE.bz:F.bE.cS K .ret ⟨e,36,[],h⟩=(K (.ret (e 4)) h):=by kernel_rfl
theorem F.jE:EV (aj Tryz.f55) ⟨aD [a0,a1],36,[],h⟩ (RL Tryz.f55 K)=(ag (bX .slice a0 h) fun a=>bV (EV F.bE.L0) ⟨(af (af (af (af (aD [a0,a1]) 4 (.int .i64 0)) 9 a0) 10 a) 11 (.int .i64 0)),36,[],h⟩ (F.bE.cS K)):=by kernel_rfl
theorem F.jm(hh:EV (aj Tryz.f55) ⟨aD [a0,a1],36,[],h⟩ (RL Tryz.f55 K)=true):Sem TP 55 [a0,a1] h K:=
 SB Tryz.func55 rfl (by decide) (by kernel_rfl) hh
theorem F.yc:EV (aj Tryz.f52) ⟨aD [a0,a1],9,[],h⟩ (RL Tryz.f52 K)=(ag (eY a0) fun a=>aC TP 47 [a1,(.func 93 [] [(.ptr (Heap.next h) 0)])] (Heap.alloc h (.cells a)) (bK (fun b c=>ag (kX .not b) fun d=>K (.ret d) c) (fun f g=>K (.panic f) g))):=by kernel_rfl
theorem F.wF(hh:EV (aj Tryz.f52) ⟨aD [a0,a1],9,[],h⟩ (RL Tryz.f52 K)=true):Sem TP 52 [a0,a1] h K:=
 SB Tryz.func52 rfl (by decide) (by kernel_rfl) hh
theorem F.CK:EV (aj Tryz.f99) ⟨aD [a0,a1],27,[],h⟩ (RL Tryz.f99 K)=(ag (aI .lss a0 (.int .i64 1)) fun c=>aA c (K (.ret (.tuple [(.int .i64 0),(.int .i64 2)])) h) (ag (aI .gtr a0 (.int .i64 64)) fun d=>aA d (K (.ret (.tuple [(.int .i64 0),(.int .i64 2)])) h) (ag (aI .lss a1 (.int .i64 0)) fun f=>aA f (K (.ret (.tuple [(.int .i64 0),(.int .i64 2)])) h) (ag (aI .gtr a1 (.int .i64 12)) fun g=>aA g (K (.ret (.tuple [(.int .i64 0),(.int .i64 2)])) h) (aC TP 108 [a0,a1,(.int .i64 4096)] h (bK (fun a b=>ag (aI .lss a (.int .i64 0)) fun i=>aA i (K (.ret (.tuple [(.int .i64 0),(.int .i64 5)])) b) (K (.ret (.tuple [a,(.int .i64 0)])) b)) (fun j k=>K (.panic j) k))))))):=by kernel_rfl
theorem F.AW(hh:EV (aj Tryz.f99) ⟨aD [a0,a1],27,[],h⟩ (RL Tryz.f99 K)=true):Sem TP 99 [a0,a1] h K:=
 SB Tryz.func99 rfl (by decide) (by kernel_rfl) hh
noncomputable def F.fI.L0:=partOf (aj Tryz.f115) [1,1,0,1,0,0]
noncomputable def F.fI.cS(K:Out->Heap->Bool):=(bg 0 (cY false (EV (partOf (aj Tryz.f115) [1,1,1])) (RL Tryz.f115 K)))
theorem F.fI.aU:EV F.fI.L0 ⟨e,72,[],h⟩ J=(ag (bT 2 (e 3)) fun g=>ag (ah none g h) fun i=>ag (bX .slice i h) fun j=>ag (aI .lss (e 5) j) fun k=>let Q1:=(af (af (af (af (af e 27 (e 5)) 28 g) 29 i) 30 j) 31 k);aA k (ag (bT 2 (e 3)) fun l=>ag (ah none l h) fun m=>ag (dM 1 m (e 5)) fun n=>ag (ah none n h) fun o=>ag (bX .slice o h) fun p=>ag (bT 1 (e 3)) fun q=>ag (ah none q h) fun r=>ag (pM (.int .i64) p r) fun d=>let Q2:=(af (af (af (af (af (af (af (af (af (af Q1 34 l) 35 m) 36 (e 5)) 37 n) 38 o) 39 p) 40 q) 41 r) 42 d) 43 d);aA d (J .ret ⟨(af (af (af (af (af (af (af (af (af (af (af (af (af (af (af (af (af (af (af (af (af (af (af (af (af (af (af (af (af (af (af (af (af (af (af (af (af (af (af (af (af Q2 43 (.bool true)) 44 bJ) 43 (.bool true)) 45 bJ) 43 (.bool true)) 46 bJ) 43 (.bool true)) 47 bJ) 43 (.bool true)) 48 bJ) 43 (.bool true)) 49 bJ) 43 (.bool true)) 50 bJ) 43 (.bool true)) 51 bJ) 52 (.bool true)) 53 (.bool true)) 53 (.bool true)) 54 bJ) 53 (.bool true)) 55 bJ) 53 (.bool true)) 56 bJ) 57 bJ) 58 bJ) 59 bJ) 60 bJ) 61 bJ) 62 bJ) 63 bJ) 64 bJ) 65 bJ) 66 bJ) 67 bJ) 68 bJ) 69 bJ) 53 (.bool true)) 70 bJ) 71 (.bool true)) 4 (.bool false)),72,[],h⟩) (ag (bT 2 (e 3)) fun s=>ag (ah none s h) fun t=>ag (dM 1 t (e 5)) fun u=>ag (ah none u h) fun v=>aC TP 125 [(e 0),v] h (bK (fun w a=>ag (kX .not w) fun b=>let Q3:=(af (af (af (af (af (af (af (af (af (af (af (af (af (af (af (af (af (af Q2 43 (.bool false)) 44 (e 0)) 43 (.bool false)) 45 s) 43 (.bool false)) 46 t) 43 (.bool false)) 47 (e 5)) 43 (.bool false)) 48 u) 43 (.bool false)) 49 v) 43 (.bool false)) 50 w) 43 (.bool false)) 51 b) 52 b) 53 b);aA b (J .ret ⟨(af (af (af (af (af (af (af (af (af (af (af (af (af (af (af (af (af (af (af (af (af (af (af Q3 53 (.bool true)) 54 bJ) 53 (.bool true)) 55 bJ) 53 (.bool true)) 56 bJ) 57 bJ) 58 bJ) 59 bJ) 60 bJ) 61 bJ) 62 bJ) 63 bJ) 64 bJ) 65 bJ) 66 bJ) 67 bJ) 68 bJ) 69 bJ) 53 (.bool true)) 70 bJ) 71 (.bool true)) 4 (.bool false)),72,[],a⟩) (ag (aI .gtr (e 5) (.int .i64 0)) fun f=>let Q4:=(af (af (af (af (af (af Q3 53 (.bool false)) 54 (e 5)) 53 (.bool false)) 55 f) 53 (.bool false)) 56 f);aA f (ag (bT 2 (e 3)) fun x=>ag (ah none x a) fun y=>ag (aI .sub (e 5) (.int .i64 1)) fun z=>ag (dM 1 y z) fun A=>ag (ah none A a) fun B=>ag (bT 2 (e 3)) fun C=>ag (ah none C a) fun D=>ag (dM 1 D (e 5)) fun E=>ag (ah none E a) fun G=>aC TP 156 [B,G] a (bK (fun I L=>ag (kX .not I) fun c=>let Q5:=(af (af (af (af (af (af (af (af (af (af (af (af (af (af (af (af (af (af (af (af (af (af (af (af (af (af (af (af (af Q4 56 (.bool true)) 57 x) 56 (.bool true)) 58 y) 56 (.bool true)) 59 (e 5)) 56 (.bool true)) 60 z) 56 (.bool true)) 61 A) 56 (.bool true)) 62 B) 56 (.bool true)) 63 C) 56 (.bool true)) 64 D) 56 (.bool true)) 65 (e 5)) 56 (.bool true)) 66 E) 56 (.bool true)) 67 G) 56 (.bool true)) 68 I) 56 (.bool true)) 69 c) 53 (.bool false)) 70 c) 71 c);aA c (J .ret ⟨(af Q5 4 (.bool false)),72,[],L⟩) (ag (aI .add (e 5) (.int .i64 1)) fun M=>J .normal ⟨(af (af (af Q5 32 (e 5)) 33 M) 5 M),72,[],L⟩)) (fun _ _=>false))) (ag (aI .add (e 5) (.int .i64 1)) fun N=>J .normal ⟨(af (af (af (af (af (af (af (af (af (af (af (af (af (af (af (af (af (af (af (af (af (af (af (af (af (af (af (af (af (af (af (af Q4 56 (.bool false)) 57 bJ) 56 (.bool false)) 58 bJ) 56 (.bool false)) 59 bJ) 56 (.bool false)) 60 bJ) 56 (.bool false)) 61 bJ) 56 (.bool false)) 62 bJ) 56 (.bool false)) 63 bJ) 56 (.bool false)) 64 bJ) 56 (.bool false)) 65 bJ) 56 (.bool false)) 66 bJ) 56 (.bool false)) 67 bJ) 56 (.bool false)) 68 bJ) 56 (.bool false)) 69 bJ) 53 (.bool false)) 70 (.bool false)) 71 (.bool false)) 32 (e 5)) 33 N) 5 N),72,[],a⟩))) (fun _ _=>false)))) (J (.exit 0) ⟨Q1,72,[],h⟩)):=by kernel_rfl
theorem F.fI.aG:F.fI.cS K (.exit 0) ⟨e,72,[],h⟩=(K (.ret (.bool true)) h):=by kernel_rfl
theorem F.fI.bz:F.fI.cS K .ret ⟨e,72,[],h⟩=(K (.ret (e 4)) h):=by kernel_rfl
theorem F.GF:EV (aj Tryz.f115) ⟨aD [a0,a1],72,[],h⟩ (RL Tryz.f115 K)=(ag (eY a1) fun p=>ag (bT 0 (.ptr (Heap.next h) 0)) fun q=>ag (ah none q (Heap.alloc h (.cells p))) fun r=>aC TP 153 [r] (Heap.alloc h (.cells p)) (bK (fun s c=>ag (kX .not s) fun m=>aA m (K (.ret (.bool false)) c) (ag (bT 1 (.ptr (Heap.next h) 0)) fun t=>ag (ah none t c) fun u=>ag (aI .lss u (.int .i64 0)) fun a=>aA a (K (.ret (.bool false)) c) (ag (bT 1 (.ptr (Heap.next h) 0)) fun f=>ag (ah none f c) fun g=>ag (aI .gtr g (.int .i64 12)) fun b=>aA b (K (.ret (.bool false)) c) (ag (bT 1 (.ptr (Heap.next h) 0)) fun i=>ag (ah none i c) fun j=>aC TP 155 [a0,j] c (bK (fun k l=>ag (aI .gtr k (.int .i64 4096)) fun d=>aA d (K (.ret (.bool false)) l) (bV (EV F.fI.L0) ⟨(af (af (af (af (af (af (af (af (af (af (af (af (af (af (af (af (af (af (af (af (af (af (af (af (af (af (af (af (af (af (af (af (af (af (af (aD [a0,a1]) 3 (.ptr (Heap.next h) 0)) 4 (.bool false)) 6 q) 7 r) 8 s) 9 m) 10 m) 10 (.bool false)) 11 t) 10 (.bool false)) 12 u) 10 (.bool false)) 13 a) 14 a) 15 a) 15 (.bool false)) 16 f) 15 (.bool false)) 17 g) 15 (.bool false)) 18 b) 19 b) 20 b) 20 (.bool false)) 21 a0) 20 (.bool false)) 22 i) 20 (.bool false)) 23 j) 20 (.bool false)) 24 k) 20 (.bool false)) 25 d) 26 d) 5 (.int .i64 0)),72,[],l⟩ (F.fI.cS K))) (fun n o=>K (.panic n) o)))))) (fun v w=>K (.panic v) w))):=by kernel_rfl
theorem F.Eu(hh:EV (aj Tryz.f115) ⟨aD [a0,a1],72,[],h⟩ (RL Tryz.f115 K)=true):Sem TP 115 [a0,a1] h K:=
 SB Tryz.func115 rfl (by decide) (by kernel_rfl) hh
noncomputable def F.fB.L0:=partOf (aj Tryz.f156) [1,0,1,0,0]
noncomputable def F.fB.cS(K:Out->Heap->Bool):=(bg 0 (cY false (EV (partOf (aj Tryz.f156) [1,1])) (RL Tryz.f156 K)))
theorem F.fB.aU:EV F.fB.L0 ⟨e,30,[],h⟩ J=(ag (bX .slice (e 0) h) fun d=>ag (aI .lss (e 5) d) fun f=>let Q1:=(af (af (af (af e 6 (e 5)) 7 (e 0)) 8 d) 9 f);aA f (ag (dM 1 (e 0) (e 5)) fun g=>ag (ah none g h) fun i=>ag (dM 1 (e 1) (e 5)) fun j=>ag (ah none j h) fun k=>ag (pM (.int .i64) i k) fun l=>let Q2:=(af (af (af (af (af (af (af (af (af Q1 12 (e 0)) 13 (e 5)) 14 g) 15 i) 16 (e 1)) 17 (e 5)) 18 j) 19 k) 20 l);aA l (ag (dM 1 (e 0) (e 5)) fun m=>ag (ah none m h) fun n=>ag (dM 1 (e 1) (e 5)) fun o=>ag (ah none o h) fun a=>ag (aI .lss n a) fun b=>J .ret ⟨(af (af (af (af (af (af (af (af (af (af Q2 21 (e 0)) 22 (e 5)) 23 m) 24 n) 25 (e 1)) 26 (e 5)) 27 o) 28 a) 29 b) 4 b),30,[],h⟩) (ag (aI .add (e 5) (.int .i64 1)) fun c=>J .normal ⟨(af (af (af Q2 10 (e 5)) 11 c) 5 c),30,[],h⟩)) (J (.exit 0) ⟨Q1,30,[],h⟩)):=by kernel_rfl
theorem F.fB.aG:F.fB.cS K (.exit 0) ⟨e,30,[],h⟩=(K (.ret (.bool false)) h):=by kernel_rfl
theorem F.fB.bz:F.fB.cS K .ret ⟨e,30,[],h⟩=(K (.ret (e 4)) h):=by kernel_rfl
theorem F.Ev:EV (aj Tryz.f156) ⟨aD [a0,a1],30,[],h⟩ (RL Tryz.f156 K)=(bV (EV F.fB.L0) ⟨(af (af (aD [a0,a1]) 4 (.bool false)) 5 (.int .i64 0)),30,[],h⟩ (F.fB.cS K)):=by kernel_rfl
theorem F.CL(hh:EV (aj Tryz.f156) ⟨aD [a0,a1],30,[],h⟩ (RL Tryz.f156 K)=true):Sem TP 156 [a0,a1] h K:=
 SB Tryz.func156 rfl (by decide) (by kernel_rfl) hh
noncomputable def F.ef.L0:=partOf (aj Tryz.f108) [1,1,0,1,0,0]
noncomputable def F.ef.cS(K:Out->Heap->Bool):=(bg 0 (cY false (EV (partOf (aj Tryz.f108) [1,1,1])) (RL Tryz.f108 K)))
theorem F.ef.aU:EV F.ef.L0 ⟨e,19,[],h⟩ J=(ag (aI .lss (e 9) (e 8)) fun b=>aA b (ag (aI .mul (e 7) (e 0)) fun a=>ag (aI .gtr a (e 2)) fun c=>let Q1:=(af (af (af (af (af (af (af (af e 10 b) 11 (e 7)) 12 (e 0)) 13 a) 7 a) 14 a) 15 (e 2)) 16 c);aA c (J .ret ⟨(af Q1 6 (.int .i64 (-1))),19,[],h⟩) (ag (aI .add (e 9) (.int .i64 1)) fun d=>J .normal ⟨(af (af Q1 17 d) 9 d),19,[],h⟩)) (J (.exit 0) ⟨(af e 10 b),19,[],h⟩)):=by kernel_rfl
theorem F.ef.aG:F.ef.cS K (.exit 0) ⟨e,19,[],h⟩=(K (.ret (e 7)) h):=by kernel_rfl
theorem F.ef.bz:F.ef.cS K .ret ⟨e,19,[],h⟩=(K (.ret (e 6)) h):=by kernel_rfl
theorem F.CM:EV (aj Tryz.f108) ⟨aD [a0,a1,a2],19,[],h⟩ (RL Tryz.f108 K)=(bV (EV F.ef.L0) ⟨(af (af (af (af (aD [a0,a1,a2]) 6 (.int .i64 0)) 7 (.int .i64 1)) 8 a1) 9 (.int .i64 0)),19,[],h⟩ (F.ef.cS K)):=by kernel_rfl
theorem F.AY(hh:EV (aj Tryz.f108) ⟨aD [a0,a1,a2],19,[],h⟩ (RL Tryz.f108 K)=true):Sem TP 108 [a0,a1,a2] h K:=
 SB Tryz.func108 rfl (by decide) (by kernel_rfl) hh
noncomputable def F.dh.L0:=partOf (aj Tryz.f109) [1,0,1,0,0]
noncomputable def F.dh.cS(K:Out->Heap->Bool):=(bg 0 (cY false (EV (partOf (aj Tryz.f109) [1,1])) (RL Tryz.f109 K)))
theorem F.dh.aU:EV F.dh.L0 ⟨e,42,[],h⟩ J=(ag (aI .lss (e 10) (e 9)) fun w=>let Q1:=(af e 11 w);aA w (ag (dM 1 (e 8) (e 10)) fun x=>ag (ah none x h) fun b=>ag (bX .slice b h) fun y=>ag (bT 1 (e 3)) fun z=>ag (ah none z h) fun A=>ag (pM (.int .i64) y A) fun f=>let Q2:=(af (af (af (af (af (af (af (af (af (af (af Q1 12 (e 10)) 13 x) 14 b) 5 (e 10)) 6 b) 15 b) 16 y) 17 z) 18 A) 19 f) 20 f);aA f (J .ret ⟨(af (af (af (af (af (af (af (af (af (af (af (af (af (af (af (af (af (af (af (af (af (af (af (af (af (af (af (af (af Q2 20 (.bool true)) 21 bJ) 20 (.bool true)) 22 bJ) 20 (.bool true)) 23 bJ) 20 (.bool true)) 24 bJ) 25 (.bool true)) 26 (.bool true)) 26 (.bool true)) 27 bJ) 26 (.bool true)) 28 bJ) 26 (.bool true)) 29 bJ) 30 bJ) 31 bJ) 32 bJ) 33 bJ) 34 bJ) 35 bJ) 36 bJ) 37 bJ) 38 bJ) 26 (.bool true)) 39 bJ) 40 (.bool true)) 4 (.bool false)),42,[],h⟩) (aC TP 52 [(e 0),b] h (bK (fun n a=>ag (kX .not n) fun c=>let Q3:=(af (af (af (af (af (af (af (af (af (af Q2 20 (.bool false)) 21 (e 0)) 20 (.bool false)) 22 b) 20 (.bool false)) 23 n) 20 (.bool false)) 24 c) 25 c) 26 c);aA c (J .ret ⟨(af (af (af (af (af (af (af (af (af (af (af (af (af (af (af (af (af (af (af Q3 26 (.bool true)) 27 bJ) 26 (.bool true)) 28 bJ) 26 (.bool true)) 29 bJ) 30 bJ) 31 bJ) 32 bJ) 33 bJ) 34 bJ) 35 bJ) 36 bJ) 37 bJ) 38 bJ) 26 (.bool true)) 39 bJ) 40 (.bool true)) 4 (.bool false)),42,[],a⟩) (ag (aI .gtr (e 10) (.int .i64 0)) fun g=>let Q4:=(af (af (af (af (af (af Q3 26 (.bool false)) 27 (e 10)) 26 (.bool false)) 28 g) 26 (.bool false)) 29 g);aA g (ag (bT 2 (e 3)) fun i=>ag (ah none i a) fun j=>ag (aI .sub (e 10) (.int .i64 1)) fun k=>ag (dM 1 j k) fun l=>ag (ah none l a) fun m=>aC TP 55 [m,b] a (bK (fun o p=>ag (aI .geq o (.int .i64 0)) fun d=>let Q5:=(af (af (af (af (af (af (af (af (af (af (af (af (af (af (af (af (af (af (af (af (af Q4 29 (.bool true)) 30 i) 29 (.bool true)) 31 j) 29 (.bool true)) 32 (e 10)) 29 (.bool true)) 33 k) 29 (.bool true)) 34 l) 29 (.bool true)) 35 m) 29 (.bool true)) 36 b) 29 (.bool true)) 37 o) 29 (.bool true)) 38 d) 26 (.bool false)) 39 d) 40 d);aA d (J .ret ⟨(af Q5 4 (.bool false)),42,[],p⟩) (ag (aI .add (e 10) (.int .i64 1)) fun q=>J .normal ⟨(af (af Q5 41 q) 10 q),42,[],p⟩)) (fun s t=>J (.panic s) ⟨(af (af (af (af (af (af (af (af (af (af (af (af (af (af (af Q4 29 (.bool true)) 30 i) 29 (.bool true)) 31 j) 29 (.bool true)) 32 (e 10)) 29 (.bool true)) 33 k) 29 (.bool true)) 34 l) 29 (.bool true)) 35 m) 29 (.bool true)) 36 b) 29 (.bool true)),42,[],t⟩))) (ag (aI .add (e 10) (.int .i64 1)) fun r=>J .normal ⟨(af (af (af (af (af (af (af (af (af (af (af (af (af (af (af (af (af (af (af (af (af (af (af Q4 29 (.bool false)) 30 bJ) 29 (.bool false)) 31 bJ) 29 (.bool false)) 32 bJ) 29 (.bool false)) 33 bJ) 29 (.bool false)) 34 bJ) 29 (.bool false)) 35 bJ) 29 (.bool false)) 36 bJ) 29 (.bool false)) 37 bJ) 29 (.bool false)) 38 bJ) 26 (.bool false)) 39 (.bool false)) 40 (.bool false)) 41 r) 10 r),42,[],a⟩))) (fun u v=>J (.panic u) ⟨(af (af (af (af (af Q2 20 (.bool false)) 21 (e 0)) 20 (.bool false)) 22 b) 20 (.bool false)),42,[],v⟩)))) (J (.exit 0) ⟨Q1,42,[],h⟩)):=by kernel_rfl
theorem F.dh.aG:F.dh.cS K (.exit 0) ⟨e,42,[],h⟩=(K (.ret (.bool true)) h):=by kernel_rfl
theorem F.dh.bz:F.dh.cS K .ret ⟨e,42,[],h⟩=(K (.ret (e 4)) h):=by kernel_rfl
theorem F.AZ:EV (aj Tryz.f109) ⟨aD [a0,a1],42,[],h⟩ (RL Tryz.f109 K)=(ag (eY a1) fun a=>ag (bT 2 (.ptr (Heap.next h) 0)) fun b=>ag (ah none b (Heap.alloc h (.cells a))) fun c=>ag (bX .slice c (Heap.alloc h (.cells a))) fun d=>bV (EV F.dh.L0) ⟨(af (af (af (af (af (af (aD [a0,a1]) 3 (.ptr (Heap.next h) 0)) 4 (.bool false)) 7 b) 8 c) 9 d) 10 (.int .i64 0)),42,[],(Heap.alloc h (.cells a))⟩ (F.dh.cS K)):=by kernel_rfl
theorem F.zh(hh:EV (aj Tryz.f109) ⟨aD [a0,a1],42,[],h⟩ (RL Tryz.f109 K)=true):Sem TP 109 [a0,a1] h K:=
 SB Tryz.func109 rfl (by decide) (by kernel_rfl) hh
theorem F.jx:EV (aj Tryz.f110) ⟨aD [a0,a1],9,[],h⟩ (RL Tryz.f110 K)=(aC TP 76 [a0,a1] h (bK (fun a b=>ag (aI .geq a (.int .i64 0)) fun c=>K (.ret c) b) (fun d f=>K (.panic d) f))):=by kernel_rfl
theorem F.jo(hh:EV (aj Tryz.f110) ⟨aD [a0,a1],9,[],h⟩ (RL Tryz.f110 K)=true):Sem TP 110 [a0,a1] h K:=
 SB Tryz.func110 rfl (by decide) (by kernel_rfl) hh
theorem F.zi:EV (aj Tryz.f111) ⟨aD [a0,a1],9,[],h⟩ (RL Tryz.f111 K)=(ag (eY a0) fun a=>ag (bT 0 (.ptr (Heap.next h) 0)) fun b=>ag (ah none b (Heap.alloc h (.cells a))) fun c=>ag (bT 0 a1) fun d=>ag (ah none d (Heap.alloc h (.cells a))) fun f=>ag (jC .string c f) fun g=>K (.ret g) (Heap.alloc h (.cells a))):=by kernel_rfl
theorem F.yd(hh:EV (aj Tryz.f111) ⟨aD [a0,a1],9,[],h⟩ (RL Tryz.f111 K)=true):Sem TP 111 [a0,a1] h K:=
 SB Tryz.func111 rfl (by decide) (by kernel_rfl) hh
noncomputable def F.bu.L0:=partOf (aj Tryz.f76) [1,0,1,0,0]
noncomputable def F.bu.cS(K:Out->Heap->Bool):=(bg 0 (cY false (EV (partOf (aj Tryz.f76) [1,1])) (RL Tryz.f76 K)))
theorem F.bu.aU:EV F.bu.L0 ⟨e,19,[],h⟩ J=(ag (aI .lss (e 8) (e 7)) fun c=>let Q1:=(af e 9 c);aA c (ag (dM 3 (e 0) (e 8)) fun a=>ag (ah (some 3) a h) fun b=>pz (e 1) fun f9 QM RJ=>aC TP f9 (QM++([b]++RJ)) h (bK (fun d f=>let Q2:=(af (af (af (af (af (af (af (af Q1 10 (e 8)) 5 (e 8)) 11 (e 1)) 12 (e 0)) 13 (e 8)) 14 a) 15 b) 16 d);aA d (J .ret ⟨(af (af Q2 17 (e 8)) 4 (e 8)),19,[],f⟩) (ag (aI .add (e 8) (.int .i64 1)) fun g=>J .normal ⟨(af (af Q2 18 g) 8 g),19,[],f⟩)) (fun i j=>J (.panic i) ⟨(af (af (af (af (af (af (af Q1 10 (e 8)) 5 (e 8)) 11 (e 1)) 12 (e 0)) 13 (e 8)) 14 a) 15 b),19,[],j⟩))) (J (.exit 0) ⟨Q1,19,[],h⟩)):=by kernel_rfl
theorem F.bu.aG:F.bu.cS K (.exit 0) ⟨e,19,[],h⟩=(K (.ret (.int .i64 (-1))) h):=by kernel_rfl
theorem F.bu.bz:F.bu.cS K .ret ⟨e,19,[],h⟩=(K (.ret (e 4)) h):=by kernel_rfl
theorem F.ke:EV (aj Tryz.f76) ⟨aD [a0,a1],19,[],h⟩ (RL Tryz.f76 K)=(ag (bX .slice a0 h) fun a=>bV (EV F.bu.L0) ⟨(af (af (af (af (aD [a0,a1]) 4 (.int .i64 0)) 6 a0) 7 a) 8 (.int .i64 0)),19,[],h⟩ (F.bu.cS K)):=by kernel_rfl
theorem F.jR(hh:EV (aj Tryz.f76) ⟨aD [a0,a1],19,[],h⟩ (RL Tryz.f76 K)=true):Sem TP 76 [a0,a1] h K:=
 SB Tryz.func76 rfl (by decide) (by kernel_rfl) hh
theorem F.A0:EV (aj Tryz.f94) ⟨aD [a0,a1,a2],15,[],h⟩ (RL Tryz.f94 K)=(ag (eY a0) fun a=>ag (bT 0 (.ptr (Heap.next h) 0)) fun b=>ag (ah none b (Heap.alloc h (.cells a))) fun c=>ag (ah none a1 (Heap.alloc h (.cells a))) fun d=>ag (jC .string c d) fun f=>aA f (ag (bT 1 (.ptr (Heap.next h) 0)) fun g=>ag (ah none g (Heap.alloc h (.cells a))) fun i=>ag (ah none a2 (Heap.alloc h (.cells a))) fun j=>ag (jC (.int .i64) i j) fun k=>K (.ret k) (Heap.alloc h (.cells a))) (K (.ret (.bool false)) (Heap.alloc h (.cells a)))):=by kernel_rfl
theorem F.zj(hh:EV (aj Tryz.f94) ⟨aD [a0,a1,a2],15,[],h⟩ (RL Tryz.f94 K)=true):Sem TP 94 [a0,a1,a2] h K:=
 SB Tryz.func94 rfl (by decide) (by kernel_rfl) hh
theorem F.wG:EV (aj Tryz.f95) ⟨aD [a0,a1],20,[],h⟩ (RL Tryz.f95 K)=(aC TP 136 [a0] h (bK (fun c d=>aC TP 136 [a1] d (bK (fun b a=>aA c (aA b (K (.ret (.int .i64 0)) a) (K (.ret (.int .i64 (-1))) a)) (aA b (K (.ret (.int .i64 1)) a) (ag (aI .lss a0 a1) fun f=>aA f (K (.ret (.int .i64 (-1))) a) (ag (aI .gtr a0 a1) fun g=>aA g (K (.ret (.int .i64 1)) a) (K (.ret (.int .i64 0)) a))))) (fun i j=>K (.panic i) j))) (fun k l=>K (.panic k) l))):=by kernel_rfl
theorem F.vg(hh:EV (aj Tryz.f95) ⟨aD [a0,a1],20,[],h⟩ (RL Tryz.f95 K)=true):Sem TP 95 [a0,a1] h K:=
 SB Tryz.func95 rfl (by decide) (by kernel_rfl) hh
theorem F.vh:EV (aj Tryz.f93) ⟨aD [a0,a1],11,[],h⟩ (RL Tryz.f93 K)=(ag (aI .lss a0 (.int .i64 0)) fun a=>aA a (K (.ret (.bool true)) h) (ag (ah none a1 h) fun b=>ag (aI .geq a0 b) fun c=>K (.ret c) h)):=by kernel_rfl
theorem F.sZ(hh:EV (aj Tryz.f93) ⟨aD [a0,a1],11,[],h⟩ (RL Tryz.f93 K)=true):Sem TP 93 [a0,a1] h K:=
 SB Tryz.func93 rfl (by decide) (by kernel_rfl) hh
theorem F.zk:EV (aj Tryz.f136) ⟨aD [a0],6,[],h⟩ (RL Tryz.f136 K)=(ag (pM (.int .i64) a0 a0) fun a=>K (.ret a) h):=by kernel_rfl
theorem F.ye(hh:EV (aj Tryz.f136) ⟨aD [a0],6,[],h⟩ (RL Tryz.f136 K)=true):Sem TP 136 [a0] h K:=
 SB Tryz.func136 rfl (by decide) (by kernel_rfl) hh
noncomputable def F.gN.L0:=partOf (aj Tryz.f125) [1,0,1,0,0]
noncomputable def F.gN.cS(K:Out->Heap->Bool):=(bg 0 (cY false (EV (partOf (aj Tryz.f125) [1,1])) (RL Tryz.f125 K)))
theorem F.gN.aU:EV F.gN.L0 ⟨e,25,[],h⟩ J=(ag (bX .slice (e 1) h) fun c=>ag (aI .lss (e 5) c) fun d=>let Q1:=(af (af (af (af e 6 (e 5)) 7 (e 1)) 8 c) 9 d);aA d (ag (dM 1 (e 1) (e 5)) fun f=>ag (ah none f h) fun g=>ag (aI .lss g (.int .i64 0)) fun a=>let Q2:=(af (af (af (af (af (af Q1 12 (e 1)) 13 (e 5)) 14 f) 15 g) 16 a) 17 a);aA a (J .ret ⟨(af (af (af (af (af (af (af (af (af (af (af (af (af (af Q2 17 (.bool true)) 18 bJ) 17 (.bool true)) 19 bJ) 17 (.bool true)) 20 bJ) 17 (.bool true)) 21 bJ) 17 (.bool true)) 22 bJ) 17 (.bool true)) 23 bJ) 24 (.bool true)) 4 (.bool false)),25,[],h⟩) (ag (dM 1 (e 1) (e 5)) fun i=>ag (ah none i h) fun j=>ag (aI .geq j (e 0)) fun b=>let Q3:=(af (af (af (af (af (af (af (af (af (af (af (af (af Q2 17 (.bool false)) 18 (e 1)) 17 (.bool false)) 19 (e 5)) 17 (.bool false)) 20 i) 17 (.bool false)) 21 j) 17 (.bool false)) 22 (e 0)) 17 (.bool false)) 23 b) 24 b);aA b (J .ret ⟨(af Q3 4 (.bool false)),25,[],h⟩) (ag (aI .add (e 5) (.int .i64 1)) fun k=>J .normal ⟨(af (af (af Q3 10 (e 5)) 11 k) 5 k),25,[],h⟩))) (J (.exit 0) ⟨Q1,25,[],h⟩)):=by kernel_rfl
theorem F.gN.aG:F.gN.cS K (.exit 0) ⟨e,25,[],h⟩=(K (.ret (.bool true)) h):=by kernel_rfl
theorem F.gN.bz:F.gN.cS K .ret ⟨e,25,[],h⟩=(K (.ret (e 4)) h):=by kernel_rfl
theorem F.Ip:EV (aj Tryz.f125) ⟨aD [a0,a1],25,[],h⟩ (RL Tryz.f125 K)=(bV (EV F.gN.L0) ⟨(af (af (aD [a0,a1]) 4 (.bool false)) 5 (.int .i64 0)),25,[],h⟩ (F.gN.cS K)):=by kernel_rfl
theorem F.GG(hh:EV (aj Tryz.f125) ⟨aD [a0,a1],25,[],h⟩ (RL Tryz.f125 K)=true):Sem TP 125 [a0,a1] h K:=
 SB Tryz.func125 rfl (by decide) (by kernel_rfl) hh
noncomputable def F.bR.L0:=partOf (aj Tryz.f91) [1,0,1,0,0]
noncomputable def F.bR.cS(K:Out->Heap->Bool):=(bg 0 (cY false (EV (partOf (aj Tryz.f91) [1,1])) (RL Tryz.f91 K)))
theorem F.bR.aU:EV F.bR.L0 ⟨e,19,[],h⟩ J=(ag (aI .lss (e 8) (e 7)) fun c=>let Q1:=(af e 9 c);aA c (ag (dM 1 (e 0) (e 8)) fun a=>ag (ah none a h) fun b=>pz (e 1) fun f9 QM RJ=>aC TP f9 (QM++([b]++RJ)) h (bK (fun d f=>let Q2:=(af (af (af (af (af (af (af (af Q1 10 (e 8)) 5 (e 8)) 11 (e 1)) 12 (e 0)) 13 (e 8)) 14 a) 15 b) 16 d);aA d (J .ret ⟨(af (af Q2 17 (e 8)) 4 (e 8)),19,[],f⟩) (ag (aI .add (e 8) (.int .i64 1)) fun g=>J .normal ⟨(af (af Q2 18 g) 8 g),19,[],f⟩)) (fun i j=>J (.panic i) ⟨(af (af (af (af (af (af (af Q1 10 (e 8)) 5 (e 8)) 11 (e 1)) 12 (e 0)) 13 (e 8)) 14 a) 15 b),19,[],j⟩))) (J (.exit 0) ⟨Q1,19,[],h⟩)):=by kernel_rfl
theorem F.bR.aG:F.bR.cS K (.exit 0) ⟨e,19,[],h⟩=(K (.ret (.int .i64 (-1))) h):=by kernel_rfl
theorem F.bR.bz:F.bR.cS K .ret ⟨e,19,[],h⟩=(K (.ret (e 4)) h):=by kernel_rfl
theorem F.mZ:EV (aj Tryz.f91) ⟨aD [a0,a1],19,[],h⟩ (RL Tryz.f91 K)=(ag (bX .slice a0 h) fun a=>bV (EV F.bR.L0) ⟨(af (af (af (af (aD [a0,a1]) 4 (.int .i64 0)) 6 a0) 7 a) 8 (.int .i64 0)),19,[],h⟩ (F.bR.cS K)):=by kernel_rfl
theorem F.mJ(hh:EV (aj Tryz.f91) ⟨aD [a0,a1],19,[],h⟩ (RL Tryz.f91 K)=true):Sem TP 91 [a0,a1] h K:=
 SB Tryz.func91 rfl (by decide) (by kernel_rfl) hh
theorem F.lU:EV (aj Tryz.f47) ⟨aD [a0,a1],9,[],h⟩ (RL Tryz.f47 K)=(aC TP 91 [a0,a1] h (bK (fun a b=>ag (aI .geq a (.int .i64 0)) fun c=>K (.ret c) b) (fun d f=>K (.panic d) f))):=by kernel_rfl
theorem F.lJ(hh:EV (aj Tryz.f47) ⟨aD [a0,a1],9,[],h⟩ (RL Tryz.f47 K)=true):Sem TP 47 [a0,a1] h K:=
 SB Tryz.func47 rfl (by decide) (by kernel_rfl) hh
noncomputable def F.gH.L0:=partOf (aj Tryz.f25) [1,1,0,1,0,0]
noncomputable def F.gH.cS(K:Out->Heap->Bool):=(bg 0 (cY false (EV (partOf (aj Tryz.f25) [1,1,1])) (RL Tryz.f25 K)))
theorem F.gH.aU:EV F.gH.L0 ⟨e,41,[],h⟩ J=(ag (bT 1 (e 1)) fun L=>ag (ah none L h) fun M=>ag (bX .slice M h) fun N=>ag (aI .lss (e 4) N) fun O=>let Q1:=(af (af (af (af (af e 8 (e 4)) 9 L) 10 M) 11 N) 12 O);aA O (ag (bT 1 (e 3)) fun y=>ag (ah none y h) fun b=>ag (bT 1 (e 1)) fun c=>ag (ah none c h) fun d=>ag (dM 3 d (e 4)) fun m=>ag (bT 0 m) fun f=>ag (ah none f h) fun g=>ag (bT 1 (e 1)) fun i=>ag (ah none i h) fun j=>ag (dM 3 j (e 4)) fun n=>ag (bT 1 n) fun k=>ag (ah none k h) fun l=>ag (bT 1 (e 1)) fun o=>ag (ah none o h) fun p=>ag (dM 3 p (e 4)) fun q=>ag (bT 2 q) fun r=>ag (ah none r h) fun s=>aC TP 72 [s] h (bK (fun t a=>if ((ag (ah none k a) fun z=>AV.beq z l)&&((ag (ah none i a) fun A=>AV.beq A j)&&((ag (ah none f a) fun B=>AV.beq B g)&&((ag (ah none c a) fun C=>AV.beq C d)&&((ag (ah none y a) fun D=>AV.beq D b)&&true)))))=true then (ag (iA [(.str []),(.int .i64 0),.ay] [(0,1),(1,1),(2,1)] [g,l,t]) fun u=>ag (fZ [(.str []),(.int .i64 0),.ay] [(0,3)] [u]) fun E=>dg (cj 3 48 b (.slice (Heap.next a) 0 1 3) (Heap.alloc a (.cells E))) fun v G=>ag (bT 1 (e 3)) fun w=>ag (aZ 1 w v G) fun I=>ag (aI .add (e 4) (.int .i64 1)) fun x=>J .normal ⟨(af (af (af (af (af (af (af (af (af (af (af (af (af (af (af (af (af (af (af (af (af (af (af (af (af (af (af (af Q1 15 y) 16 b) 17 c) 18 d) 19 (e 4)) 20 m) 21 f) 22 g) 23 i) 24 j) 25 (e 4)) 26 n) 27 k) 28 l) 29 o) 30 p) 31 (e 4)) 32 q) 33 r) 34 s) 35 t) 36 u) 37 (.slice (Heap.next a) 0 1 3)) 38 v) 39 w) 13 (e 4)) 14 x) 4 x),41,[],I⟩) else false) (fun _ _=>false))) (J (.exit 0) ⟨Q1,41,[],h⟩)):=by kernel_rfl
theorem F.gH.aG:F.gH.cS K (.exit 0) ⟨e,41,[],h⟩=(ag (ah (some 2) (e 3) h) fun a=>ag (aZ 2 (e 2) a h) fun b=>ag (dz TP ⟨(af e 40 a),41,[],b⟩ Tryz.f25.results.toList) fun c=>K (.ret (oneOf c)) b):=by kernel_rfl
theorem F.Ew:EV (aj Tryz.f25) ⟨aD [a0],41,[],h⟩ (RL Tryz.f25 K)=(ag (eY a0) fun a=>ag (bT 0 (.ptr (Heap.next h) 0)) fun b=>ag (ah none b (Heap.alloc (Heap.alloc h (.cells a)) (.cells [(.int .i64 0),.ay]))) fun c=>ag (iA [(.int .i64 0),.ay] [(0,1)] [c]) fun d=>ag (aZ 2 (.ptr (Heap.next (Heap.alloc (Heap.alloc h (.cells a)) (.cells [(.int .i64 0),.ay]))) 0) d (Heap.alloc (Heap.alloc (Heap.alloc h (.cells a)) (.cells [(.int .i64 0),.ay])) (.cells [(.int .i64 0),.ay]))) fun f=>bV (EV F.gH.L0) ⟨(af (af (af (af (af (af (af (aD [a0]) 1 (.ptr (Heap.next h) 0)) 2 (.ptr (Heap.next (Heap.alloc h (.cells a))) 0)) 5 b) 6 c) 7 d) 3 (.ptr (Heap.next (Heap.alloc (Heap.alloc h (.cells a)) (.cells [(.int .i64 0),.ay]))) 0)) 4 (.int .i64 0)),41,[],f⟩ (F.gH.cS K)):=by kernel_rfl
theorem F.CN(hh:EV (aj Tryz.f25) ⟨aD [a0],41,[],h⟩ (RL Tryz.f25 K)=true):Sem TP 25 [a0] h K:=
 SB Tryz.func25 rfl (by decide) (by kernel_rfl) hh
noncomputable def F.fq.L0:=partOf (aj Tryz.f72) [1,1,0,1,0,0]
noncomputable def F.fq.cS(K:Out->Heap->Bool):=(bg 0 (cY false (EV (partOf (aj Tryz.f72) [1,1,1])) (RL Tryz.f72 K)))
theorem F.fq.aU:EV F.fq.L0 ⟨e,21,[],h⟩ J=(ag (bX .slice (e 0) h) fun c=>ag (aI .lss (e 4) c) fun d=>let Q1:=(af (af (af (af e 5 (e 4)) 6 (e 0)) 7 c) 8 d);aA d (ag (fZ [] [] []) fun f=>ag (dM 1 (e 0) (e 4)) fun g=>ag (ah none g (Heap.alloc h (.cells f))) fun i=>dg (cj 1 8 (.slice (Heap.next h) 0 0 1) i (Heap.alloc h (.cells f))) fun j b=>ag (fZ [.ay] [(0,1)] [j]) fun l=>dg (cj 1 24 (e 3) (.slice (Heap.next b) 0 1 1) (Heap.alloc b (.cells l))) fun k m=>ag (aI .add (e 4) (.int .i64 1)) fun a=>J .normal ⟨(af (af (af (af (af (af (af (af (af (af (af (af (af Q1 11 (e 3)) 12 (.slice (Heap.next h) 0 0 1)) 13 (e 0)) 14 (e 4)) 15 g) 16 i) 17 j) 18 (.slice (Heap.next b) 0 1 1)) 19 k) 3 k) 9 (e 4)) 10 a) 4 a),21,[],m⟩) (J (.exit 0) ⟨Q1,21,[],h⟩)):=by kernel_rfl
theorem F.fq.aG:F.fq.cS K (.exit 0) ⟨e,21,[],h⟩=(K (.ret (e 3)) h):=by kernel_rfl
theorem F.A1:EV (aj Tryz.f72) ⟨aD [a0],21,[],h⟩ (RL Tryz.f72 K)=(bV (EV F.fq.L0) ⟨(af (af (af (aD [a0]) 2 .ay) 3 .ay) 4 (.int .i64 0)),21,[],h⟩ (F.fq.cS K)):=by kernel_rfl
theorem F.zl(hh:EV (aj Tryz.f72) ⟨aD [a0],21,[],h⟩ (RL Tryz.f72 K)=true):Sem TP 72 [a0] h K:=
 SB Tryz.func72 rfl (by decide) (by kernel_rfl) hh
noncomputable def F.gq.L0:=partOf (aj Tryz.f63) [1,1,1,1,1,0,1,0,0]
noncomputable def F.gq.cS(K:Out->Heap->Bool):=(bg 0 (cY false (EV (partOf (aj Tryz.f63) [1,1,1,1,1,1])) (RL Tryz.f63 K)))
theorem F.gq.aU:EV F.gq.L0 ⟨e,46,[],h⟩ J=(ag (aI .geq (e 11) (.int .i64 0)) fun a=>let Q1:=(af (af e 32 (e 11)) 33 a);aA a (ag (aI .rem (e 2) (e 0)) fun b=>ag (aI .quo (e 2) (e 0)) fun c=>ag (dM 1 (e 10) (e 11)) fun d=>ag (aZ 1 d b h) fun g=>ag (aI .sub (e 11) (.int .i64 1)) fun f=>J .normal ⟨(af (af (af (af (af (af (af (af (af (af (af (af (af Q1 36 (e 10)) 37 (e 11)) 38 (e 2)) 39 (e 0)) 40 b) 41 (e 2)) 42 (e 0)) 43 c) 44 d) 2 c) 34 (e 11)) 35 f) 11 f),46,[],g⟩) (J (.exit 0) ⟨Q1,46,[],h⟩)):=by kernel_rfl
theorem F.gq.aG:F.gq.cS K (.exit 0) ⟨e,46,[],h⟩=(K (.ret (.tuple [(e 10),(.int .i64 0)])) h):=by kernel_rfl
theorem F.CO:EV (aj Tryz.f63) ⟨aD [a0,a1,a2],46,[],h⟩ (RL Tryz.f63 K)=(aC TP 99 [a0,a1] h (bK (fun c d=>ag (bI c 0) fun f=>ag (bI c 1) fun a=>ag (pM (.int .i64) a (.int .i64 0)) fun k=>aA k (K (.ret (.tuple [.ay,a])) d) (ag (aI .lss a2 (.int .i64 0)) fun g=>aA g (K (.ret (.tuple [.ay,(.int .i64 2)])) d) (ag (aI .geq a2 f) fun i=>aA i (K (.ret (.tuple [.ay,(.int .i64 2)])) d) (dg (gG 1 8 [(.int .i64 0)] a1 a1 d) fun l j=>ag (aI .sub a1 (.int .i64 1)) fun b=>bV (EV F.gq.L0) ⟨(af (af (af (af (af (af (af (af (af (af (af (af (af (af (af (af (af (af (af (af (af (af (af (af (af (af (af (af (aD [a0,a1,a2]) 6 .ay) 7 (.int .i64 0)) 13 a0) 14 a1) 15 c) 12 c) 16 f) 17 a) 8 f) 9 a) 18 a) 19 k) 21 a2) 22 g) 23 g) 23 (.bool false)) 24 a2) 23 (.bool false)) 25 f) 23 (.bool false)) 26 i) 27 i) 28 a1) 29 l) 10 l) 30 a1) 31 b) 11 b),46,[],j⟩ (F.gq.cS K))))) (fun m n=>K (.panic m) n))):=by kernel_rfl
theorem F.A2(hh:EV (aj Tryz.f63) ⟨aD [a0,a1,a2],46,[],h⟩ (RL Tryz.f63 K)=true):Sem TP 63 [a0,a1,a2] h K:=
 SB Tryz.func63 rfl (by decide) (by kernel_rfl) hh
noncomputable def F.cI.L0:=partOf (aj Tryz.f46) [1,1,0,1,0,0]
noncomputable def F.cI.cS(K:Out->Heap->Bool):=(bg 0 (cY false (EV (partOf (aj Tryz.f46) [1,1,1])) (RL Tryz.f46 K)))
noncomputable def F.cI.L1:=partOf (aj Tryz.f46) [1,1,0,1,0,0,1,1,0,0,1,1,0,1,0,0]
noncomputable def F.cI.jP(J:AX->St->Bool):=(bg 2 (cY false (EV (partOf (aj Tryz.f46) [1,1,0,1,0,0,1,1,0,0,1,1,1])) (bg 1 (cY false (EV (partOf (aj Tryz.f46) [1,1,0,1,0,0,1,1,1])) J))))
theorem F.cI.aU:EV F.cI.L0 ⟨e,47,[],h⟩ J=(ag (aI .lss (e 15) (e 14)) fun m=>aA m (ag (dM 3 (e 13) (e 15)) fun o=>ag (ah (some 3) o h) fun c=>ag (aZ 3 (.ptr (Heap.next h) 0) c (Heap.alloc h (.cells [(.str []),(.int .i64 0),.ay]))) fun a=>ag (bT 0 (.ptr (Heap.next h) 0)) fun d=>ag (ah none d a) fun f=>ag (bT 1 (.ptr (Heap.next h) 0)) fun g=>ag (ah none g a) fun i=>ag (iA [(.str []),(.int .i64 0),.ay] [(0,1),(1,1)] [f,i]) fun j=>ag (aZ 3 (.ptr (Heap.next a) 0) j (Heap.alloc a (.cells [(.str []),(.int .i64 0),.ay]))) fun b=>ag (bT 2 (.ptr (Heap.next h) 0)) fun k=>ag (ah none k b) fun l=>ag (bX .slice l b) fun n=>bV (EV F.cI.L1) ⟨(af (af (af (af (af (af (af (af (af (af (af (af (af (af e 16 m) 17 o) 18 c) 5 (.ptr (Heap.next h) 0)) 19 d) 20 f) 21 g) 22 i) 23 j) 6 (.ptr (Heap.next a) 0)) 24 k) 25 l) 26 n) 27 (.int .i64 0)),47,[],b⟩ (F.cI.jP J)) (J (.exit 0) ⟨(af e 16 m),47,[],h⟩)):=by kernel_rfl
theorem F.cI.aG:F.cI.cS K (.exit 0) ⟨e,47,[],h⟩=(ag (ah (some 2) (e 3) h) fun a=>ag (aZ 2 (e 2) a h) fun b=>ag (dz TP ⟨(af e 46 a),47,[],b⟩ Tryz.f46.results.toList) fun c=>K (.ret (oneOf c)) b):=by kernel_rfl
theorem F.cI.dm:EV F.cI.L1 ⟨e,47,[],h⟩ J=(ag (aI .lss (e 27) (e 26)) fun c=>aA c (ag (dM 1 (e 25) (e 27)) fun g=>ag (ah none g h) fun a=>ag (bT 2 (e 6)) fun d=>ag (ah none d h) fun f=>aC TP 49 [a] h (bK (fun i b=>if ((ag (ah none d b) fun m=>AV.beq m f)&&true)=true then (ag (fZ [.ay] [(0,1)] [i]) fun n=>dg (cj 1 24 f (.slice (Heap.next b) 0 1 1) (Heap.alloc b (.cells n))) fun j o=>ag (bT 2 (e 6)) fun k=>ag (aZ 1 k j o) fun p=>ag (aI .add (e 27) (.int .i64 1)) fun l=>J .normal ⟨(af (af (af (af (af (af (af (af (af (af (af (af (af e 28 c) 29 g) 30 a) 8 a) 31 d) 32 f) 33 a) 34 i) 35 (.slice (Heap.next b) 0 1 1)) 36 j) 37 k) 38 l) 27 l),47,[],p⟩) else false) (fun _ _=>false))) (J (.exit 2) ⟨(af e 28 c),47,[],h⟩)):=by kernel_rfl
theorem F.cI.cx:F.cI.jP J (.exit 2) ⟨e,47,[],h⟩=(ag (bT 1 (e 3)) fun a=>ag (ah none a h) fun b=>ag (ah (some 3) (e 6) h) fun c=>ag (fZ [(.str []),(.int .i64 0),.ay] [(0,3)] [c]) fun i=>dg (cj 3 48 b (.slice (Heap.next h) 0 1 3) (Heap.alloc h (.cells i))) fun d j=>ag (bT 1 (e 3)) fun f=>ag (aZ 1 f d j) fun k=>ag (aI .add (e 15) (.int .i64 1)) fun g=>J .normal ⟨(af (af (af (af (af (af (af (af e 39 a) 40 b) 41 c) 42 (.slice (Heap.next h) 0 1 3)) 43 d) 44 f) 45 g) 15 g),47,[],k⟩):=by kernel_rfl
theorem F.vL:EV (aj Tryz.f46) ⟨aD [a0],47,[],h⟩ (RL Tryz.f46 K)=(ag (eY a0) fun a=>ag (bT 0 (.ptr (Heap.next h) 0)) fun c=>ag (ah none c (Heap.alloc (Heap.alloc h (.cells a)) (.cells [(.int .i64 0),.ay]))) fun d=>ag (iA [(.int .i64 0),.ay] [(0,1)] [d]) fun f=>ag (aZ 2 (.ptr (Heap.next (Heap.alloc (Heap.alloc h (.cells a)) (.cells [(.int .i64 0),.ay]))) 0) f (Heap.alloc (Heap.alloc (Heap.alloc h (.cells a)) (.cells [(.int .i64 0),.ay])) (.cells [(.int .i64 0),.ay]))) fun b=>ag (bT 1 (.ptr (Heap.next h) 0)) fun g=>ag (ah none g b) fun i=>ag (bX .slice i b) fun j=>bV (EV F.cI.L0) ⟨(af (af (af (af (af (af (af (af (af (af (aD [a0]) 1 (.ptr (Heap.next h) 0)) 2 (.ptr (Heap.next (Heap.alloc h (.cells a))) 0)) 9 c) 10 d) 11 f) 3 (.ptr (Heap.next (Heap.alloc (Heap.alloc h (.cells a)) (.cells [(.int .i64 0),.ay]))) 0)) 12 g) 13 i) 14 j) 15 (.int .i64 0)),47,[],b⟩ (F.cI.cS K)):=by kernel_rfl
theorem F.ta(hh:EV (aj Tryz.f46) ⟨aD [a0],47,[],h⟩ (RL Tryz.f46 K)=true):Sem TP 46 [a0] h K:=
 SB Tryz.func46 rfl (by decide) (by kernel_rfl) hh
theorem F.kr:EV (aj Tryz.f49) ⟨aD [a0],8,[],h⟩ (RL Tryz.f49 K)=(ag (jC (.slice 3) a0 .ay) fun a=>aA a (K (.ret .ay) h) (ag (fZ [] [] []) fun b=>dg (cj 1 8 (.slice (Heap.next h) 0 0 1) a0 (Heap.alloc h (.cells b))) fun c d=>K (.ret c) d)):=by kernel_rfl
theorem F.jS(hh:EV (aj Tryz.f49) ⟨aD [a0],8,[],h⟩ (RL Tryz.f49 K)=true):Sem TP 49 [a0] h K:=
 SB Tryz.func49 rfl (by decide) (by kernel_rfl) hh
noncomputable def F.bH.L0:=partOf (aj Tryz.f23) [1,1,1,1,0,1,0,0]
noncomputable def F.bH.cS(K:Out->Heap->Bool):=(bg 0 (cY false (EV (partOf (aj Tryz.f23) [1,1,1,1,1])) (RL Tryz.f23 K)))
noncomputable def F.bH.L1:=partOf (aj Tryz.f23) [1,1,1,1,1,0,1,0,0]
noncomputable def F.bH.jP(K:Out->Heap->Bool):=(bg 2 (cY false (EV (partOf (aj Tryz.f23) [1,1,1,1,1,1])) (RL Tryz.f23 K)))
noncomputable def F.bH.L2:=partOf (aj Tryz.f23) [1,1,1,1,1,0,1,0,0,1,0,0,1,0,1,0,0]
noncomputable def F.bH.wD(J:AX->St->Bool):=(bg 4 (cY false (EV (partOf (aj Tryz.f23) [1,1,1,1,1,0,1,0,0,1,0,0,1,1])) (bg 3 (cY false (EV (partOf (aj Tryz.f23) [1,1,1,1,1,0,1,0,0,1,1])) J))))
theorem F.bH.aU:EV F.bH.L0 ⟨e,69,[],h⟩ J=(ag (bX .slice (e 5) h) fun a=>ag (aI .lss (e 6) a) fun b=>let Q1:=(af (af (af (af e 25 (e 6)) 26 (e 5)) 27 a) 28 b);aA b (ag (ah (some 2) (e 3) h) fun c=>ag (dM 1 (e 5) (e 6)) fun d=>ag (ah none d h) fun f=>aC TP 69 [c,f] h (bK (fun g i=>ag (aI .geq g (.int .i64 0)) fun j=>let Q2:=(af (af (af (af (af (af (af Q1 31 c) 32 (e 5)) 33 (e 6)) 34 d) 35 f) 36 g) 37 j);aA j (J .ret ⟨(af Q2 4 (.int .i64 4)),69,[],i⟩) (ag (aI .add (e 6) (.int .i64 1)) fun k=>J .normal ⟨(af (af (af Q2 29 (e 6)) 30 k) 6 k),69,[],i⟩)) (fun _ _=>false))) (J (.exit 0) ⟨Q1,69,[],h⟩)):=by kernel_rfl
theorem F.bH.aG:F.bH.cS K (.exit 0) ⟨e,69,[],h⟩=(bV (EV F.bH.L1) ⟨(af e 7 (.int .i64 0)),69,[],h⟩ (F.bH.jP K)):=by kernel_rfl
theorem F.bH.bz:F.bH.cS K .ret ⟨e,69,[],h⟩=(K (.ret (e 4)) h):=by kernel_rfl
theorem F.bH.dm:EV F.bH.L1 ⟨e,69,[],h⟩ J=(ag (bX .slice (e 0) h) fun a=>ag (aI .lss (e 7) a) fun b=>let Q1:=(af (af (af (af e 38 (e 7)) 39 (e 0)) 40 a) 41 b);aA b (bV (EV F.bH.L2) ⟨(af (af Q1 8 (.int .i64 1)) 9 (.int .i64 0)),69,[],h⟩ (F.bH.wD J)) (J (.exit 2) ⟨Q1,69,[],h⟩)):=by kernel_rfl
theorem F.bH.cx:F.bH.jP K (.exit 2) ⟨e,69,[],h⟩=(ag (ah (some 2) (e 3) h) fun b=>aC TP 70 [(e 0),b] h (bK (fun c d=>aC TP 66 [c] d (bK (fun f a=>ag (kX .not f) fun g=>aA g (K (.ret (.int .i64 5)) a) (K (.ret (.int .i64 0)) a)) (fun i j=>K (.panic i) j))) (fun k l=>K (.panic k) l))):=by kernel_rfl
theorem F.bH.iR:F.bH.jP K .ret ⟨e,69,[],h⟩=(K (.ret (e 4)) h):=by kernel_rfl
theorem F.bH.kM:EV F.bH.L2 ⟨e,69,[],h⟩ J=(ag (dM 3 (e 0) (e 7)) fun b=>ag (ah (some 3) b h) fun c=>aC TP 43 [c] h (bK (fun g a=>ag (bX .slice g a) fun i=>ag (aI .lss (e 9) i) fun d=>let Q1:=(af (af (af (af (af (af (af (af (af e 44 (e 9)) 45 (e 0)) 46 (e 7)) 47 b) 48 c) 49 g) 50 i) 51 d) 52 d);aA d (ag (aI .leq (e 8) (.int .i64 65536)) fun f=>let Q2:=(af (af (af (af (af Q1 52 (.bool true)) 53 (e 8)) 52 (.bool true)) 54 f) 55 f);aA f (ag (bT 0 (e 3)) fun j=>ag (ah none j a) fun k=>ag (aI .mul (e 8) k) fun l=>ag (aI .add (e 9) (.int .i64 1)) fun m=>J .normal ⟨(af (af (af (af (af (af (af (af Q2 58 (e 8)) 59 j) 60 k) 61 l) 8 l) 56 (e 9)) 57 m) 9 m),69,[],a⟩) (J (.exit 4) ⟨Q2,69,[],a⟩)) (J (.exit 4) ⟨(af (af (af (af (af Q1 52 (.bool false)) 53 bJ) 52 (.bool false)) 54 bJ) 55 (.bool false)),69,[],a⟩)) (fun n o=>J (.panic n) ⟨(af (af (af (af (af e 44 (e 9)) 45 (e 0)) 46 (e 7)) 47 b) 48 c),69,[],o⟩))):=by kernel_rfl
theorem F.bH.ic:F.bH.wD J (.exit 4) ⟨e,69,[],h⟩=(ag (aI .gtr (e 8) (.int .i64 65536)) fun a=>aA a (J .ret ⟨(af (af (af e 62 (e 8)) 63 a) 4 (.int .i64 5)),69,[],h⟩) (ag (aI .add (e 7) (.int .i64 1)) fun b=>J .normal ⟨(af (af (af (af (af e 62 (e 8)) 63 a) 42 (e 7)) 43 b) 7 b),69,[],h⟩)):=by kernel_rfl
theorem F.CP:EV (aj Tryz.f23) ⟨aD [a0,a1],69,[],h⟩ (RL Tryz.f23 K)=(ag (eY a1) fun v=>aC TP 65 [a0] (Heap.alloc h (.cells v)) (bK (fun r l=>ag (kX .not r) fun m=>aA m (K (.ret (.int .i64 1)) l) (ag (ah (some 2) (.ptr (Heap.next h) 0) l) fun s=>aC TP 66 [s] l (bK (fun t u=>ag (kX .not t) fun a=>aA a (K (.ret (.int .i64 1)) u) (aC TP 35 [a0] u (bK (fun c d=>ag (ah (some 2) (.ptr (Heap.next h) 0) d) fun b=>aC TP 68 [a0] d (bK (fun f g=>if ((ag (ah (some 2) (.ptr (Heap.next h) 0) g) fun n=>AV.beq n b)&&true)=true then (aC TP 67 [b,f] g (bK (fun i j=>ag (kX .not i) fun k=>aA k (K (.ret (.int .i64 4)) j) (bV (EV F.bH.L0) ⟨(af (af (af (af (af (af (af (af (af (af (af (af (af (af (af (af (af (af (af (af (af (af (aD [a0,a1]) 3 (.ptr (Heap.next h) 0)) 4 (.int .i64 0)) 10 a0) 11 r) 12 m) 13 m) 13 (.bool false)) 14 s) 13 (.bool false)) 15 t) 13 (.bool false)) 16 a) 17 a) 18 a0) 19 c) 5 c) 20 b) 21 a0) 22 f) 23 i) 24 k) 6 (.int .i64 0)),69,[],j⟩ (F.bH.cS K))) (fun _ _=>false))) else false) (fun _ _=>false))) (fun o p=>K (.panic o) p)))) (fun w q=>K (.panic w) q)))) (fun x y=>K (.panic x) y))):=by kernel_rfl
theorem F.A3(hh:EV (aj Tryz.f23) ⟨aD [a0,a1],69,[],h⟩ (RL Tryz.f23 K)=true):Sem TP 23 [a0,a1] h K:=
 SB Tryz.func23 rfl (by decide) (by kernel_rfl) hh
noncomputable def F.cy.L0:=partOf (aj Tryz.f68) [1,1,1,1,0,1,0,0]
noncomputable def F.cy.cS(K:Out->Heap->Bool):=(bg 0 (cY false (EV (partOf (aj Tryz.f68) [1,1,1,1,1])) (RL Tryz.f68 K)))
noncomputable def F.cy.L1:=partOf (aj Tryz.f68) [1,1,1,1,1,1,0,1,0,0]
noncomputable def F.cy.jP(K:Out->Heap->Bool):=(bg 2 (cY false (EV (partOf (aj Tryz.f68) [1,1,1,1,1,1,1])) (RL Tryz.f68 K)))
theorem F.cy.aU:EV F.cy.L0 ⟨e,55,[],h⟩ J=(ag (bX .slice (e 5) h) fun t=>ag (aI .lss (e 6) t) fun u=>let Q1:=(af (af (af (af e 13 (e 6)) 14 (e 5)) 15 t) 16 u);aA u (ag (dM 2 (e 5) (e 6)) fun a=>ag (bT 0 a) fun b=>ag (ah none b h) fun c=>aC TP 86 [(e 3),c] h (bK (fun j d=>ag (kX .not j) fun k=>let Q2:=(af (af (af (af (af (af (af (af Q1 19 (e 3)) 20 (e 5)) 21 (e 6)) 22 a) 23 b) 24 c) 25 j) 26 k);aA k (ag (dM 2 (e 5) (e 6)) fun f=>ag (bT 0 f) fun g=>ag (ah none g d) fun i=>aC TP 79 [(e 4),i] d (bK (fun l o=>ag (aI .add (e 6) (.int .i64 1)) fun m=>J .normal ⟨(af (af (af (af (af (af (af (af (af (af (af Q2 27 (e 4)) 28 (e 5)) 29 (e 6)) 30 f) 31 g) 32 i) 33 l) 4 l) 17 (e 6)) 18 m) 6 m),55,[],o⟩) (fun p q=>J (.panic p) ⟨(af (af (af (af (af (af Q2 27 (e 4)) 28 (e 5)) 29 (e 6)) 30 f) 31 g) 32 i),55,[],q⟩))) (ag (aI .add (e 6) (.int .i64 1)) fun n=>J .normal ⟨(af (af (af Q2 17 (e 6)) 18 n) 6 n),55,[],d⟩)) (fun r s=>J (.panic r) ⟨(af (af (af (af (af (af Q1 19 (e 3)) 20 (e 5)) 21 (e 6)) 22 a) 23 b) 24 c),55,[],s⟩))) (J (.exit 0) ⟨Q1,55,[],h⟩)):=by kernel_rfl
theorem F.cy.aG:F.cy.cS K (.exit 0) ⟨e,55,[],h⟩=(bV (EV F.cy.L1) ⟨(af (af e 7 .ay) 8 (.int .i64 0)),55,[],h⟩ (F.cy.jP K)):=by kernel_rfl
theorem F.cy.dm:EV F.cy.L1 ⟨e,55,[],h⟩ J=(ag (bX .slice (e 4) h) fun d=>ag (aI .lss (e 8) d) fun f=>let Q1:=(af (af (af (af e 34 (e 8)) 35 (e 4)) 36 d) 37 f);aA f (ag (dM 1 (e 4) (e 8)) fun b=>ag (ah none b h) fun c=>ag (dM 1 (e 4) (e 8)) fun g=>ag (ah none g h) fun i=>aC TP 116 [(e 0),i] h (bK (fun j a=>if ((ag (ah none b a) fun n=>AV.beq n c)&&true)=true then (ag (iA [(.str []),(.int .i64 0)] [(0,1),(1,1)] [c,j]) fun k=>ag (fZ [(.str []),(.int .i64 0)] [(0,2)] [k]) fun o=>dg (cj 2 24 (e 7) (.slice (Heap.next a) 0 1 2) (Heap.alloc a (.cells o))) fun l p=>ag (aI .add (e 8) (.int .i64 1)) fun m=>J .normal ⟨(af (af (af (af (af (af (af (af (af (af (af (af (af (af (af (af (af (af Q1 40 (e 7)) 41 (e 4)) 42 (e 8)) 43 b) 44 c) 45 (e 0)) 46 (e 4)) 47 (e 8)) 48 g) 49 i) 50 j) 51 k) 52 (.slice (Heap.next a) 0 1 2)) 53 l) 7 l) 38 (e 8)) 39 m) 8 m),55,[],p⟩) else false) (fun _ _=>false))) (J (.exit 2) ⟨Q1,55,[],h⟩)):=by kernel_rfl
theorem F.cy.cx:F.cy.jP K (.exit 2) ⟨e,55,[],h⟩=(K (.ret (e 7)) h):=by kernel_rfl
theorem F.zm:EV (aj Tryz.f68) ⟨aD [a0],55,[],h⟩ (RL Tryz.f68 K)=(aC TP 35 [a0] h (bK (fun a c=>aC TP 113 [a0] c (bK (fun b d=>bV (EV F.cy.L0) ⟨(af (af (af (af (af (af (af (af (af (aD [a0]) 2 .ay) 9 a0) 10 a) 3 a) 4 .ay) 11 a0) 12 b) 5 b) 6 (.int .i64 0)),55,[],d⟩ (F.cy.cS K)) (fun f g=>K (.panic f) g))) (fun i j=>K (.panic i) j))):=by kernel_rfl
theorem F.yf(hh:EV (aj Tryz.f68) ⟨aD [a0],55,[],h⟩ (RL Tryz.f68 K)=true):Sem TP 68 [a0] h K:=
 SB Tryz.func68 rfl (by decide) (by kernel_rfl) hh
noncomputable def F.ei.L0:=partOf (aj Tryz.f116) [1,1,0,1,0,0]
noncomputable def F.ei.cS(K:Out->Heap->Bool):=(bg 0 (cY false (EV (partOf (aj Tryz.f116) [1,1,1])) (RL Tryz.f116 K)))
theorem F.ei.aU:EV F.ei.L0 ⟨e,27,[],h⟩ J=(ag (bX .slice (e 5) h) fun f=>ag (aI .lss (e 6) f) fun g=>let Q1:=(af (af (af (af e 9 (e 6)) 10 (e 5)) 11 f) 12 g);aA g (ag (dM 2 (e 5) (e 6)) fun i=>ag (bT 0 i) fun j=>ag (ah none j h) fun k=>ag (jC .string k (e 1)) fun l=>let Q2:=(af (af (af (af (af (af (af Q1 15 (e 5)) 16 (e 6)) 17 i) 18 j) 19 k) 20 (e 1)) 21 l);aA l (ag (dM 2 (e 5) (e 6)) fun a=>ag (bT 1 a) fun b=>ag (ah none b h) fun c=>J .ret ⟨(af (af (af (af (af (af Q2 22 (e 5)) 23 (e 6)) 24 a) 25 b) 26 c) 4 c),27,[],h⟩) (ag (aI .add (e 6) (.int .i64 1)) fun d=>J .normal ⟨(af (af (af Q2 13 (e 6)) 14 d) 6 d),27,[],h⟩)) (J (.exit 0) ⟨Q1,27,[],h⟩)):=by kernel_rfl
theorem F.ei.aG:F.ei.cS K (.exit 0) ⟨e,27,[],h⟩=(K (.ret (.int .i64 (-1))) h):=by kernel_rfl
theorem F.ei.bz:F.ei.cS K .ret ⟨e,27,[],h⟩=(K (.ret (e 4)) h):=by kernel_rfl
theorem F.CQ:EV (aj Tryz.f116) ⟨aD [a0,a1],27,[],h⟩ (RL Tryz.f116 K)=(aC TP 113 [a0] h (bK (fun a b=>bV (EV F.ei.L0) ⟨(af (af (af (af (af (aD [a0,a1]) 4 (.int .i64 0)) 7 a0) 8 a) 5 a) 6 (.int .i64 0)),27,[],b⟩ (F.ei.cS K)) (fun c d=>K (.panic c) d))):=by kernel_rfl
theorem F.A4(hh:EV (aj Tryz.f116) ⟨aD [a0,a1],27,[],h⟩ (RL Tryz.f116 K)=true):Sem TP 116 [a0,a1] h K:=
 SB Tryz.func116 rfl (by decide) (by kernel_rfl) hh
noncomputable def F.fX.L0:=partOf (aj Tryz.f70) [1,1,1,0,1,0,0]
noncomputable def F.fX.cS(K:Out->Heap->Bool):=(bg 0 (cY false (EV (partOf (aj Tryz.f70) [1,1,1,1])) (RL Tryz.f70 K)))
theorem F.fX.aU:EV F.fX.L0 ⟨e,35,[],h⟩ J=(ag (bX .slice (e 6) h) fun g=>ag (aI .lss (e 7) g) fun i=>let Q1:=(af (af (af (af e 12 (e 7)) 13 (e 6)) 14 g) 15 i);aA i (ag (bT 1 (e 5)) fun b=>ag (ah none b h) fun c=>ag (dM 1 (e 6) (e 7)) fun d=>ag (ah none d h) fun f=>ag (dM 1 (e 6) (e 7)) fun j=>ag (ah none j h) fun k=>aC TP 116 [(e 0),k] h (bK (fun l a=>if ((ag (ah none d a) fun q=>AV.beq q f)&&((ag (ah none b a) fun r=>AV.beq r c)&&true))=true then (ag (iA [(.str []),(.int .i64 0),.ay] [(0,1),(1,1)] [f,l]) fun m=>ag (fZ [(.str []),(.int .i64 0),.ay] [(0,3)] [m]) fun s=>dg (cj 3 48 c (.slice (Heap.next a) 0 1 3) (Heap.alloc a (.cells s))) fun n t=>ag (bT 1 (e 5)) fun o=>ag (aZ 1 o n t) fun u=>ag (aI .add (e 7) (.int .i64 1)) fun p=>J .normal ⟨(af (af (af (af (af (af (af (af (af (af (af (af (af (af (af (af (af (af (af Q1 18 b) 19 c) 20 (e 6)) 21 (e 7)) 22 d) 23 f) 24 (e 0)) 25 (e 6)) 26 (e 7)) 27 j) 28 k) 29 l) 30 m) 31 (.slice (Heap.next a) 0 1 3)) 32 n) 33 o) 16 (e 7)) 17 p) 7 p),35,[],u⟩) else false) (fun _ _=>false))) (J (.exit 0) ⟨Q1,35,[],h⟩)):=by kernel_rfl
theorem F.fX.aG:F.fX.cS K (.exit 0) ⟨e,35,[],h⟩=(ag (ah (some 2) (e 5) h) fun a=>ag (aZ 2 (e 4) a h) fun b=>ag (dz TP ⟨(af e 34 a),35,[],b⟩ Tryz.f70.results.toList) fun c=>K (.ret (oneOf c)) b):=by kernel_rfl
theorem F.CR:EV (aj Tryz.f70) ⟨aD [a0,a1],35,[],h⟩ (RL Tryz.f70 K)=(ag (eY a1) fun a=>ag (ah (some 2) (.ptr (Heap.next h) 0) (Heap.alloc (Heap.alloc h (.cells a)) (.cells [(.int .i64 0),.ay]))) fun d=>aC TP 25 [d] (Heap.alloc (Heap.alloc h (.cells a)) (.cells [(.int .i64 0),.ay])) (bK (fun f b=>ag (aZ 2 (.ptr (Heap.next b) 0) f (Heap.alloc b (.cells [(.int .i64 0),.ay]))) fun i=>aC TP 35 [a0] i (bK (fun g j=>bV (EV F.fX.L0) ⟨(af (af (af (af (af (af (af (af (af (aD [a0,a1]) 3 (.ptr (Heap.next h) 0)) 4 (.ptr (Heap.next (Heap.alloc h (.cells a))) 0)) 8 d) 9 f) 5 (.ptr (Heap.next b) 0)) 10 a0) 11 g) 6 g) 7 (.int .i64 0)),35,[],j⟩ (F.fX.cS K)) (fun k c=>K (.panic k) c))) (fun l m=>K (.panic l) m))):=by kernel_rfl
theorem F.A5(hh:EV (aj Tryz.f70) ⟨aD [a0,a1],35,[],h⟩ (RL Tryz.f70 K)=true):Sem TP 70 [a0,a1] h K:=
 SB Tryz.func70 rfl (by decide) (by kernel_rfl) hh
noncomputable def F.iL.L0:=partOf (aj Tryz.f16) [1,1,0,1,0,0]
noncomputable def F.iL.cS(K:Out->Heap->Bool):=(bg 0 (cY false (EV (partOf (aj Tryz.f16) [1,1,1])) (RL Tryz.f16 K)))
theorem F.iL.aU:EV F.iL.L0 ⟨e,59,[],h⟩ J=(ag (bT 1 (e 2)) fun p=>ag (ah none p h) fun q=>ag (bX .slice q h) fun r=>ag (aI .lss (e 5) r) fun s=>let Q1:=(af (af (af (af (af e 22 (e 5)) 23 p) 24 q) 25 r) 26 s);aA s (ag (bT 1 (e 2)) fun t=>ag (ah none t h) fun u=>ag (dM 3 u (e 5)) fun v=>ag (ah (some 3) v h) fun w=>ag (bT 1 (e 3)) fun c=>ag (ah none c h) fun d=>ag (dM 3 d (e 5)) fun f=>ag (ah (some 3) f h) fun g=>ag (aZ 3 (.ptr (Heap.next h) 0) w (Heap.alloc (Heap.alloc h (.cells [(.str []),(.int .i64 0),.ay])) (.cells [(.str []),(.int .i64 0),.ay]))) fun i=>if ((ag (ah (some 3) f i) fun M=>AV.beq M g)&&((ag (ah none c i) fun N=>AV.beq N d)&&true))=true then (ag (aZ 3 (.ptr (Heap.next (Heap.alloc h (.cells [(.str []),(.int .i64 0),.ay]))) 0) g i) fun a=>ag (bT 0 (.ptr (Heap.next h) 0)) fun x=>ag (ah none x a) fun y=>ag (bT 0 (.ptr (Heap.next (Heap.alloc h (.cells [(.str []),(.int .i64 0),.ay]))) 0)) fun z=>ag (ah none z a) fun A=>ag (pM .string y A) fun j=>let Q2:=(af (af (af (af (af (af (af (af (af (af (af (af (af (af (af (af (af (af Q1 29 t) 30 u) 31 (e 5)) 32 v) 33 w) 34 c) 35 d) 36 (e 5)) 37 f) 38 g) 6 (.ptr (Heap.next h) 0)) 7 (.ptr (Heap.next (Heap.alloc h (.cells [(.str []),(.int .i64 0),.ay]))) 0)) 39 x) 40 y) 41 z) 42 A) 43 j) 44 j);aA j (J .ret ⟨(af (af (af (af (af (af (af (af (af (af (af (af (af (af (af (af (af (af (af (af (af (af (af (af (af (af Q2 44 (.bool true)) 45 bJ) 44 (.bool true)) 46 bJ) 44 (.bool true)) 47 bJ) 44 (.bool true)) 48 bJ) 44 (.bool true)) 49 bJ) 50 (.bool true)) 51 (.bool true)) 51 (.bool true)) 52 bJ) 51 (.bool true)) 53 bJ) 51 (.bool true)) 54 bJ) 51 (.bool true)) 55 bJ) 51 (.bool true)) 56 bJ) 51 (.bool true)) 57 bJ) 58 (.bool true)) 4 (.bool false)),59,[],a⟩) (ag (bT 1 (.ptr (Heap.next h) 0)) fun B=>ag (ah none B a) fun C=>ag (bT 1 (.ptr (Heap.next (Heap.alloc h (.cells [(.str []),(.int .i64 0),.ay]))) 0)) fun D=>ag (ah none D a) fun E=>ag (pM (.int .i64) C E) fun b=>let Q3:=(af (af (af (af (af (af (af (af (af (af (af (af Q2 44 (.bool false)) 45 B) 44 (.bool false)) 46 C) 44 (.bool false)) 47 D) 44 (.bool false)) 48 E) 44 (.bool false)) 49 b) 50 b) 51 b);aA b (J .ret ⟨(af (af (af (af (af (af (af (af (af (af (af (af (af (af Q3 51 (.bool true)) 52 bJ) 51 (.bool true)) 53 bJ) 51 (.bool true)) 54 bJ) 51 (.bool true)) 55 bJ) 51 (.bool true)) 56 bJ) 51 (.bool true)) 57 bJ) 58 (.bool true)) 4 (.bool false)),59,[],a⟩) (ag (bT 2 (.ptr (Heap.next h) 0)) fun k=>ag (ah none k a) fun l=>ag (bT 2 (.ptr (Heap.next (Heap.alloc h (.cells [(.str []),(.int .i64 0),.ay]))) 0)) fun m=>ag (ah none m a) fun n=>aC TP 51 [l,n] a (bK (fun G I=>ag (kX .not G) fun o=>let Q4:=(af (af (af (af (af (af (af (af (af (af (af (af (af Q3 51 (.bool false)) 52 k) 51 (.bool false)) 53 l) 51 (.bool false)) 54 m) 51 (.bool false)) 55 n) 51 (.bool false)) 56 G) 51 (.bool false)) 57 o) 58 o);aA o (J .ret ⟨(af Q4 4 (.bool false)),59,[],I⟩) (ag (aI .add (e 5) (.int .i64 1)) fun L=>J .normal ⟨(af (af (af Q4 27 (e 5)) 28 L) 5 L),59,[],I⟩)) (fun O P=>J (.panic O) ⟨(af (af (af (af (af (af (af (af (af Q3 51 (.bool false)) 52 k) 51 (.bool false)) 53 l) 51 (.bool false)) 54 m) 51 (.bool false)) 55 n) 51 (.bool false)),59,[],P⟩))))) else false) (J (.exit 0) ⟨Q1,59,[],h⟩)):=by kernel_rfl
theorem F.iL.aG:F.iL.cS K (.exit 0) ⟨e,59,[],h⟩=(K (.ret (.bool true)) h):=by kernel_rfl
theorem F.Ey:EV (aj Tryz.f16) ⟨aD [a0,a1],59,[],h⟩ (RL Tryz.f16 K)=(ag (eY a0) fun a=>ag (eY a1) fun b=>ag (bT 0 (.ptr (Heap.next h) 0)) fun j=>ag (ah none j (Heap.alloc (Heap.alloc h (.cells a)) (.cells b))) fun k=>ag (bT 0 (.ptr (Heap.next (Heap.alloc h (.cells a))) 0)) fun l=>ag (ah none l (Heap.alloc (Heap.alloc h (.cells a)) (.cells b))) fun m=>ag (pM (.int .i64) k m) fun i=>aA i (K (.ret (.bool false)) (Heap.alloc (Heap.alloc h (.cells a)) (.cells b))) (ag (bT 1 (.ptr (Heap.next h) 0)) fun n=>ag (ah none n (Heap.alloc (Heap.alloc h (.cells a)) (.cells b))) fun o=>ag (bX .slice o (Heap.alloc (Heap.alloc h (.cells a)) (.cells b))) fun p=>ag (bT 1 (.ptr (Heap.next (Heap.alloc h (.cells a))) 0)) fun d=>ag (ah none d (Heap.alloc (Heap.alloc h (.cells a)) (.cells b))) fun f=>ag (bX .slice f (Heap.alloc (Heap.alloc h (.cells a)) (.cells b))) fun g=>ag (pM (.int .i64) p g) fun c=>aA c (K (.ret (.bool false)) (Heap.alloc (Heap.alloc h (.cells a)) (.cells b))) (bV (EV F.iL.L0) ⟨(af (af (af (af (af (af (af (af (af (af (af (af (af (af (af (af (af (af (af (af (af (af (af (af (af (aD [a0,a1]) 2 (.ptr (Heap.next h) 0)) 3 (.ptr (Heap.next (Heap.alloc h (.cells a))) 0)) 4 (.bool false)) 8 j) 9 k) 10 l) 11 m) 12 i) 13 i) 13 (.bool false)) 14 n) 13 (.bool false)) 15 o) 13 (.bool false)) 16 p) 13 (.bool false)) 17 d) 13 (.bool false)) 18 f) 13 (.bool false)) 19 g) 13 (.bool false)) 20 c) 21 c) 5 (.int .i64 0)),59,[],(Heap.alloc (Heap.alloc h (.cells a)) (.cells b))⟩ (F.iL.cS K)))):=by kernel_rfl
theorem F.CS(hh:EV (aj Tryz.f16) ⟨aD [a0,a1],59,[],h⟩ (RL Tryz.f16 K)=true):Sem TP 16 [a0,a1] h K:=
 SB Tryz.func16 rfl (by decide) (by kernel_rfl) hh
noncomputable def F.dX.L0:=partOf (aj Tryz.f51) [1,1,0,1,0,0]
noncomputable def F.dX.cS(K:Out->Heap->Bool):=(bg 0 (cY false (EV (partOf (aj Tryz.f51) [1,1,1])) (RL Tryz.f51 K)))
theorem F.dX.aU:EV F.dX.L0 ⟨e,27,[],h⟩ J=(ag (bX .slice (e 0) h) fun d=>ag (aI .lss (e 5) d) fun f=>let Q1:=(af (af (af (af e 11 (e 5)) 12 (e 0)) 13 d) 14 f);aA f (ag (dM 1 (e 0) (e 5)) fun g=>ag (ah none g h) fun i=>ag (dM 1 (e 1) (e 5)) fun j=>ag (ah none j h) fun k=>aC TP 20 [i,k] h (bK (fun l a=>ag (kX .not l) fun b=>let Q2:=(af (af (af (af (af (af (af (af (af (af Q1 17 (e 0)) 18 (e 5)) 19 g) 20 i) 21 (e 1)) 22 (e 5)) 23 j) 24 k) 25 l) 26 b);aA b (J .ret ⟨(af Q2 4 (.bool false)),27,[],a⟩) (ag (aI .add (e 5) (.int .i64 1)) fun c=>J .normal ⟨(af (af (af Q2 15 (e 5)) 16 c) 5 c),27,[],a⟩)) (fun _ _=>false))) (J (.exit 0) ⟨Q1,27,[],h⟩)):=by kernel_rfl
theorem F.dX.aG:F.dX.cS K (.exit 0) ⟨e,27,[],h⟩=(K (.ret (.bool true)) h):=by kernel_rfl
theorem F.vi:EV (aj Tryz.f51) ⟨aD [a0,a1],27,[],h⟩ (RL Tryz.f51 K)=(ag (bX .slice a0 h) fun a=>ag (bX .slice a1 h) fun b=>ag (pM (.int .i64) a b) fun c=>aA c (K (.ret (.bool false)) h) (bV (EV F.dX.L0) ⟨(af (af (af (af (af (af (af (aD [a0,a1]) 4 (.bool false)) 6 a0) 7 a) 8 a1) 9 b) 10 c) 5 (.int .i64 0)),27,[],h⟩ (F.dX.cS K))):=by kernel_rfl
theorem F.tc(hh:EV (aj Tryz.f51) ⟨aD [a0,a1],27,[],h⟩ (RL Tryz.f51 K)=true):Sem TP 51 [a0,a1] h K:=
 SB Tryz.func51 rfl (by decide) (by kernel_rfl) hh
noncomputable def F.cT.L0:=partOf (aj Tryz.f10) [1,1,1,1,0,1,0,0]
noncomputable def F.cT.cS(K:Out->Heap->Bool):=(bg 0 (cY false (EV (partOf (aj Tryz.f10) [1,1,1,1,1])) (RL Tryz.f10 K)))
noncomputable def F.cT.L1:=partOf (aj Tryz.f10) [1,1,1,1,0,1,0,0,1,0,0,1,0,1,0,0]
noncomputable def F.cT.jP(J:AX->St->Bool):=(bg 2 (cY false (EV (partOf (aj Tryz.f10) [1,1,1,1,0,1,0,0,1,0,0,1,1])) (bg 1 (cY false (EV (partOf (aj Tryz.f10) [1,1,1,1,0,1,0,0,1,1])) J))))
theorem F.cT.aU:EV F.cT.L0 ⟨e,50,[],h⟩ J=(ag (bX .slice (e 0) h) fun a=>ag (aI .lss (e 8) a) fun b=>let Q1:=(af (af (af (af e 24 (e 8)) 25 (e 0)) 26 a) 27 b);aA b (bV (EV F.cT.L1) ⟨(af (af Q1 9 (.int .i64 1)) 10 (.int .i64 0)),50,[],h⟩ (F.cT.jP J)) (J (.exit 0) ⟨Q1,50,[],h⟩)):=by kernel_rfl
theorem F.cT.aG:F.cT.cS K (.exit 0) ⟨e,50,[],h⟩=(ag (aI .leq (e 7) (e 2)) fun a=>K (.ret a) h):=by kernel_rfl
theorem F.cT.dm:EV F.cT.L1 ⟨e,50,[],h⟩ J=(ag (dM 3 (e 0) (e 8)) fun b=>ag (ah (some 3) b h) fun c=>aC TP 43 [c] h (bK (fun d a=>ag (bX .slice d a) fun f=>ag (aI .lss (e 10) f) fun g=>let Q1:=(af (af (af (af (af (af (af (af e 30 (e 10)) 31 (e 0)) 32 (e 8)) 33 b) 34 c) 35 d) 36 f) 37 g);aA g (ag (bT 0 (e 4)) fun i=>ag (ah none i a) fun j=>ag (aI .mul (e 9) j) fun k=>ag (aI .add (e 10) (.int .i64 1)) fun l=>J .normal ⟨(af (af (af (af (af (af (af (af Q1 40 (e 9)) 41 i) 42 j) 43 k) 9 k) 38 (e 10)) 39 l) 10 l),50,[],a⟩) (J (.exit 2) ⟨Q1,50,[],a⟩)) (fun m n=>J (.panic m) ⟨(af (af (af (af (af e 30 (e 10)) 31 (e 0)) 32 (e 8)) 33 b) 34 c),50,[],n⟩))):=by kernel_rfl
theorem F.cT.cx:F.cT.jP J (.exit 2) ⟨e,50,[],h⟩=(ag (aI .add (e 7) (e 9)) fun a=>ag (aI .add (e 8) (.int .i64 1)) fun b=>J .normal ⟨(af (af (af (af (af (af (af e 44 (e 7)) 45 (e 9)) 46 a) 7 a) 28 (e 8)) 29 b) 8 b),50,[],h⟩):=by kernel_rfl
theorem F.CT:EV (aj Tryz.f10) ⟨aD [a0,a1,a2],50,[],h⟩ (RL Tryz.f10 K)=(ag (eY a1) fun r=>aC TP 41 [a0,(.int .i64 300)] (Heap.alloc h (.cells r)) (bK (fun o b=>ag (kX .not o) fun i=>aA i (K (.ret (.bool false)) b) (ag (ah (some 2) (.ptr (Heap.next h) 0) b) fun p=>ag (fZ [(.int .i64 0),.ay] [(0,2)] [p]) fun s=>aC TP 42 [(.slice (Heap.next b) 0 1 2)] (Heap.alloc b (.cells s)) (bK (fun q j=>ag (kX .not q) fun a=>aA a (K (.ret (.bool false)) j) (ag (ah (some 2) (.ptr (Heap.next h) 0) j) fun c=>aC TP 23 [a0,c] j (bK (fun d f=>ag (pM (.int .i64) d (.int .i64 0)) fun g=>aA g (K (.ret (.bool true)) f) (bV (EV F.cT.L0) ⟨(af (af (af (af (af (af (af (af (af (af (af (af (af (af (af (af (af (af (af (af (af (aD [a0,a1,a2]) 4 (.ptr (Heap.next h) 0)) 6 (.bool false)) 11 a0) 12 o) 13 i) 14 i) 14 (.bool false)) 15 p) 14 (.bool false)) 16 (.slice (Heap.next b) 0 1 2)) 14 (.bool false)) 17 q) 14 (.bool false)) 18 a) 19 a) 20 a0) 21 c) 22 d) 23 g) 7 (.int .i64 0)) 8 (.int .i64 0)),50,[],f⟩ (F.cT.cS K))) (fun k l=>K (.panic k) l)))) (fun m n=>K (.panic m) n)))) (fun t u=>K (.panic t) u))):=by kernel_rfl
theorem F.A6(hh:EV (aj Tryz.f10) ⟨aD [a0,a1,a2],50,[],h⟩ (RL Tryz.f10 K)=true):Sem TP 10 [a0,a1,a2] h K:=
 SB Tryz.func10 rfl (by decide) (by kernel_rfl) hh
theorem F.CU:EV (aj Tryz.f60) ⟨aD [a0,a1],4,[],h⟩ (RL Tryz.f60 K)=(ag (eY a0) fun a=>K (.ret (.tuple [])) (Heap.alloc h (.cells a))):=by kernel_rfl
theorem F.A7(hh:EV (aj Tryz.f60) ⟨aD [a0,a1],4,[],h⟩ (RL Tryz.f60 K)=true):Sem TP 60 [a0,a1] h K:=
 SB Tryz.func60 rfl (by decide) (by kernel_rfl) hh
end
end Go.AM
namespace Go.AM
open List Nat Bool Option
open Go
noncomputable section
def F1:xu:=fun x=>if x=130 then some (jZ (iU sA0 sR0) (jZ (iU sA1 sR1) (jZ (iU sA2 sR2) (jZ (iU sA3 sR3) (jZ (iU sA4 sR4) (jZ (iU sA5 sR5) (jZ (iU sA6 sR6) (jZ (iU sA7 sR7) (jZ (iU sA8 sR8) (jZ (iU sA9 sR9) (iU XX XY))))))))))) else if x=53 then some (jZ (iU XZ X0) (jZ (dI 20 Zr Zs) (iU Zt Zu))) else if x=99 then some (iU X1 X2) else if x=121 then some (jZ (dI 20 X3 X4) (jZ (dI 20 X5 X6) (jZ (dI 20 X7 X8) (jZ (dI 20 X9 Ya) (jZ (dI 20 Yb Yc) (jZ (dI 20 Yd Ye) (jZ (dI 20 Yf Yg) (jZ (dI 20 Yh Yi) (jZ (dI 20 Yj Yk) (jZ (dI 20 Yl Ym) (jZ (dI 20 Yn Yo) (jZ (dI 20 Yp Yq) (jZ (dI 20 Yr Ys) (jZ (dI 20 Yt Yu) (jZ (dI 20 Yv Yw) (jZ (dI 20 Yx Yy) (jZ (dI 20 Yz YA) (jZ (dI 20 YB YC) (jZ (dI 20 YD YE) (jZ (dI 20 YF YG) (jZ (dI 20 YH YI) (jZ (dI 20 YJ YK) (jZ (dI 20 YL YM) (jZ (dI 20 YN YO) (jZ (dI 20 YP YQ) (jZ (dI 20 YR YS) (jZ (dI 20 YT YU) (jZ (dI 20 YV YW) (jZ (dI 20 YX YY) (jZ (dI 20 YZ Y0) (jZ (dI 20 Y1 Y2) (jZ (dI 20 Y3 Y4) (jZ (dI 20 Y5 Y6) (jZ (dI 20 Y7 Y8) (jZ (dI 20 Y9 Za) (jZ (dI 20 Zb Zc) (jZ (dI 20 Zd Ze) (jZ (dI 20 Zf Zg) (jZ (dI 20 Zh Zi) (jZ (dI 20 Zj Zk) (jZ (dI 20 Zl Zm) (jZ (dI 20 Zn Zo) (dI 20 Zp Zq))))))))))))))))))))))))))))))))))))))))))) else F0 x
theorem Iq:iJ TP F1:=by
 have hs:=jY mixed qs sQ 200;intro f g hg args h K hK;unfold F1 at hg;split at hg
 ·rename_i e;subst e;cases hg;rcases cu hK with hK|hK
  ·exact cK hs (by kernel_rfl) VC args h K hK
  rcases cu hK with hK|hK
  ·exact cK hs (by kernel_rfl) VD args h K hK
  rcases cu hK with hK|hK
  ·exact cK hs (by kernel_rfl) VE args h K hK
  rcases cu hK with hK|hK
  ·exact cK hs (by kernel_rfl) VF args h K hK
  rcases cu hK with hK|hK
  ·exact cK hs (by kernel_rfl) VG args h K hK
  rcases cu hK with hK|hK
  ·exact cK hs (by kernel_rfl) VH args h K hK
  rcases cu hK with hK|hK
  ·exact cK hs (by kernel_rfl) VI args h K hK
  rcases cu hK with hK|hK
  ·exact cK hs (by kernel_rfl) VJ args h K hK
  rcases cu hK with hK|hK
  ·exact cK hs (by kernel_rfl) VK args h K hK
  rcases cu hK with hK|hK
  ·exact cK hs (by kernel_rfl) VL args h K hK
  exact cK hs (by kernel_rfl) RN args h K hK
 split at hg
 ·rename_i e;subst e;cases hg;rcases cu hK with hK|hK
  ·exact cK hs (by kernel_rfl) RO args h K hK
  rcases cu hK with hK|hK
  ·exact bh hs SF args h K hK
  exact cK hs (by kernel_rfl) SG args h K hK
 split at hg
 ·rename_i e;subst e;cases hg;exact cK hs (by kernel_rfl) RP args h K hK
 split at hg
 ·rename_i e;subst e;cases hg;rcases cu hK with hK|hK
  ·exact bh hs RQ args h K hK
  rcases cu hK with hK|hK
  ·exact bh hs RR args h K hK
  rcases cu hK with hK|hK
  ·exact bh hs RT args h K hK
  rcases cu hK with hK|hK
  ·exact bh hs RU args h K hK
  rcases cu hK with hK|hK
  ·exact bh hs RV args h K hK
  rcases cu hK with hK|hK
  ·exact bh hs RX args h K hK
  rcases cu hK with hK|hK
  ·exact bh hs RY args h K hK
  rcases cu hK with hK|hK
  ·exact bh hs RZ args h K hK
  rcases cu hK with hK|hK
  ·exact bh hs R2 args h K hK
  rcases cu hK with hK|hK
  ·exact bh hs R3 args h K hK
  rcases cu hK with hK|hK
  ·exact bh hs R4 args h K hK
  rcases cu hK with hK|hK
  ·exact bh hs R5 args h K hK
  rcases cu hK with hK|hK
  ·exact bh hs R6 args h K hK
  rcases cu hK with hK|hK
  ·exact bh hs R7 args h K hK
  rcases cu hK with hK|hK
  ·exact bh hs R8 args h K hK
  rcases cu hK with hK|hK
  ·exact bh hs R9 args h K hK
  rcases cu hK with hK|hK
  ·exact bh hs Sa args h K hK
  rcases cu hK with hK|hK
  ·exact bh hs Sb args h K hK
  rcases cu hK with hK|hK
  ·exact bh hs Sc args h K hK
  rcases cu hK with hK|hK
  ·exact bh hs Sd args h K hK
  rcases cu hK with hK|hK
  ·exact bh hs Se args h K hK
  rcases cu hK with hK|hK
  ·exact bh hs Sf args h K hK
  rcases cu hK with hK|hK
  ·exact bh hs Sg args h K hK
  rcases cu hK with hK|hK
  ·exact bh hs Sh args h K hK
  rcases cu hK with hK|hK
  ·exact bh hs Si args h K hK
  rcases cu hK with hK|hK
  ·exact bh hs Sj args h K hK
  rcases cu hK with hK|hK
  ·exact bh hs Sk args h K hK
  rcases cu hK with hK|hK
  ·exact bh hs Sm args h K hK
  rcases cu hK with hK|hK
  ·exact bh hs Sn args h K hK
  rcases cu hK with hK|hK
  ·exact bh hs Sp args h K hK
  rcases cu hK with hK|hK
  ·exact bh hs Sq args h K hK
  rcases cu hK with hK|hK
  ·exact bh hs Sr args h K hK
  rcases cu hK with hK|hK
  ·exact bh hs Ss args h K hK
  rcases cu hK with hK|hK
  ·exact bh hs Su args h K hK
  rcases cu hK with hK|hK
  ·exact bh hs Sv args h K hK
  rcases cu hK with hK|hK
  ·exact bh hs Sw args h K hK
  rcases cu hK with hK|hK
  ·exact bh hs Sx args h K hK
  rcases cu hK with hK|hK
  ·exact bh hs Sy args h K hK
  rcases cu hK with hK|hK
  ·exact bh hs Sz args h K hK
  rcases cu hK with hK|hK
  ·exact bh hs SA args h K hK
  rcases cu hK with hK|hK
  ·exact bh hs SC args h K hK
  rcases cu hK with hK|hK
  ·exact bh hs SD args h K hK
  exact bh hs SE args h K hK
 exact qs f g hg args h K hK
def Zv:List AV:=[(.agg [(.str [80]),(.ax [(.str [120]),(.str [121])] 0 2 1)])]
def Zw:AV:=(.bool true)
theorem SH:bQ TP F1 D0 200 138 Zv Heap.empty (cC false 20 Zw)=true:=by kernel_rfl
def Zx:List AV:=[(.agg [(.str [80]),(.ax [(.str [120]),(.str [121])] 0 2 1),(.ax [(.int .i64 0),(.bool false),(.str [69]),(.ax [(.str [120]),(.str [121])] 0 2 1)] 0 1 4)])]
def Zy:AV:=(.ax [(.str [120]),(.str [121])] 0 2 1)
theorem SI:bQ TP F1 D0 200 100 Zx Heap.empty (cC false 20 Zy)=true:=by kernel_rfl
def Zz:List AV:=[(.agg [(.int .i64 0),(.bool false),(.str [69]),(.ax [(.str [120]),(.str [121])] 0 2 1)])]
def ZA:AV:=(.bool true)
theorem SJ:bQ TP F1 D0 200 140 Zz Heap.empty (cC false 20 ZA)=true:=by kernel_rfl
def ZB:List AV:=[(.agg [(.str [80]),(.ax [(.str [120]),(.str [121])] 0 2 1),(.ax [(.int .i64 0),(.bool false),(.str [69]),(.ax [(.str [120]),(.str [122])] 0 2 1),(.int .i64 0),(.bool false),(.str [80]),(.ax [(.str [122]),(.str [121])] 0 2 1)] 0 2 4)])]
def ZC:AV:=(.ax [(.str [120]),(.str [121]),(.str [122])] 0 3 1)
theorem SK:bQ TP F1 D0 200 100 ZB Heap.empty (cC false 20 ZC)=true:=by kernel_rfl
def ZD:List AV:=[(.agg [(.int .i64 0),(.bool false),(.str [69]),(.ax [(.str [120]),(.str [122])] 0 2 1)])]
def ZE:AV:=(.bool true)
theorem SL:bQ TP F1 D0 200 140 ZD Heap.empty (cC false 20 ZE)=true:=by kernel_rfl
def ZF:List AV:=[(.agg [(.int .i64 0),(.bool false),(.str [80]),(.ax [(.str [122]),(.str [121])] 0 2 1)])]
def ZG:AV:=(.bool true)
theorem SM:bQ TP F1 D0 200 140 ZF Heap.empty (cC false 20 ZG)=true:=by kernel_rfl
def ZH:List AV:=[(.agg [(.str [80]),(.ax [(.str [120]),(.str [121])] 0 2 1)])]
def ZI:AV:=(.bool true)
theorem SN:bQ TP F1 D0 200 138 ZH Heap.empty (cC true 20 ZI)=true:=by kernel_rfl
def ZJ:List AV:=[(.agg [(.str [80]),(.ax [(.str [120]),(.str [121])] 0 2 1),(.ax [(.int .i64 0),(.bool false),(.str [69]),(.ax [(.str [120]),(.str [121])] 0 2 1)] 0 1 4)])]
def ZK:AV:=(.ax [(.str [120]),(.str [121])] 0 2 1)
theorem SO:bQ TP F1 D0 200 100 ZJ Heap.empty (cC true 20 ZK)=true:=by kernel_rfl
def ZL:List AV:=[(.agg [(.int .i64 0),(.bool false),(.str [69]),(.ax [(.str [120]),(.str [121])] 0 2 1)])]
def ZM:AV:=(.bool true)
theorem SP:bQ TP F1 D0 200 140 ZL Heap.empty (cC true 20 ZM)=true:=by kernel_rfl
def ZN:List AV:=[(.agg [(.str [80]),(.ax [(.str [120]),(.str [121])] 0 2 1),(.ax [(.int .i64 0),(.bool false),(.str [69]),(.ax [(.str [120]),(.str [122])] 0 2 1),(.int .i64 0),(.bool false),(.str [80]),(.ax [(.str [122]),(.str [121])] 0 2 1)] 0 2 4)])]
def ZO:AV:=(.ax [(.str [120]),(.str [121]),(.str [122])] 0 3 1)
theorem SQ:bQ TP F1 D0 200 100 ZN Heap.empty (cC true 20 ZO)=true:=by kernel_rfl
def ZP:List AV:=[(.agg [(.int .i64 0),(.bool false),(.str [69]),(.ax [(.str [120]),(.str [122])] 0 2 1)])]
def ZQ:AV:=(.bool true)
theorem SS:bQ TP F1 D0 200 140 ZP Heap.empty (cC true 20 ZQ)=true:=by kernel_rfl
def ZR:List AV:=[(.agg [(.int .i64 0),(.bool false),(.str [80]),(.ax [(.str [122]),(.str [121])] 0 2 1)])]
def ZS:AV:=(.bool true)
theorem SU:bQ TP F1 D0 200 140 ZR Heap.empty (cC true 20 ZS)=true:=by kernel_rfl
def ZT:List AV:=[(.agg [(.int .i64 3),(.ax [(.str [69]),(.int .i64 2),(.ax [(.ax [(.int .i64 0),(.int .i64 1)] 0 2 1),(.ax [(.int .i64 1),(.int .i64 2)] 0 2 1)] 0 2 1)] 0 1 3)])]
def ZU:AV:=(.bool true)
theorem SV:bQ TP F1 D0 200 64 ZT Heap.empty (cC true 20 ZU)=true:=by kernel_rfl
def ZV:List AV:=[(.int .i64 0),(.agg [(.str [80]),(.ax [(.str [120]),(.str [121])] 0 2 1),(.ax [(.int .i64 0),(.bool false),(.str [69]),(.ax [(.str [120]),(.str [121])] 0 2 1)] 0 1 4)])]
def ZW:AV:=(.agg [(.int .i64 0),(.str [80]),(.ax [(.str [120]),(.str [121])] 0 2 1),(.ax [(.int .i64 0),(.bool false),(.str [69]),(.ax [(.str [120]),(.str [121])] 0 2 1)] 0 1 4),(.int .i64 2),(.ax [(.int .i64 0),(.int .i64 1)] 0 2 1),(.ax [(.ax [(.int .i64 0),(.int .i64 1)] 0 2 1)] 0 1 1),(.ax [(.int .i64 1)] 0 1 1)])
theorem SW:bQ TP F1 D0 200 102 ZV Heap.empty (cC true 20 ZW)=true:=by kernel_rfl
def ZX:List AV:=[(.int .i64 1),(.agg [(.str [80]),(.ax [(.str [120]),(.str [121])] 0 2 1),(.ax [(.int .i64 0),(.bool false),(.str [69]),(.ax [(.str [120]),(.str [122])] 0 2 1),(.int .i64 0),(.bool false),(.str [80]),(.ax [(.str [122]),(.str [121])] 0 2 1)] 0 2 4)])]
def ZY:AV:=(.agg [(.int .i64 1),(.str [80]),(.ax [(.str [120]),(.str [121])] 0 2 1),(.ax [(.int .i64 0),(.bool false),(.str [69]),(.ax [(.str [120]),(.str [122])] 0 2 1),(.int .i64 0),(.bool false),(.str [80]),(.ax [(.str [122]),(.str [121])] 0 2 1)] 0 2 4),(.int .i64 3),(.ax [(.int .i64 0),(.int .i64 1)] 0 2 1),(.ax [(.ax [(.int .i64 0),(.int .i64 2)] 0 2 1),(.ax [(.int .i64 2),(.int .i64 1)] 0 2 1)] 0 2 1),(.ax [(.int .i64 2),(.int .i64 2)] 0 2 1)])
theorem SX:bQ TP F1 D0 200 102 ZX Heap.empty (cC true 20 ZY)=true:=by kernel_rfl
def ZZ:List AV:=[(.agg [(.int .i64 3),(.ax [(.str [69]),(.int .i64 2),(.ax [(.ax [(.int .i64 0),(.int .i64 1)] 0 2 1),(.ax [(.int .i64 1),(.int .i64 2)] 0 2 1)] 0 2 1)] 0 1 3)])]
def Z0:AV:=(.bool true)
theorem SY:bQ TP F1 D0 200 64 ZZ Heap.empty (cC false 20 Z0)=true:=by kernel_rfl
def Z1:List AV:=[(.agg [(.int .i64 3),(.ax [(.str [69]),(.int .i64 2),(.ax [(.ax [(.int .i64 1),(.int .i64 2)] 0 2 1)] 0 1 1)] 0 1 3)])]
def Z2:AV:=(.bool true)
theorem SZ:bQ TP F1 D0 200 64 Z1 Heap.empty (cC true 20 Z2)=true:=by kernel_rfl
def F2:xu:=fun x=>if x=138 then some (jZ (dI 20 Zv Zw) (iU ZH ZI)) else if x=100 then some (jZ (dI 20 Zx Zy) (jZ (dI 20 ZB ZC) (jZ (iU ZJ ZK) (iU ZN ZO)))) else if x=140 then some (jZ (dI 20 Zz ZA) (jZ (dI 20 ZD ZE) (jZ (dI 20 ZF ZG) (jZ (iU ZL ZM) (jZ (iU ZP ZQ) (iU ZR ZS)))))) else if x=64 then some (jZ (iU ZT ZU) (jZ (dI 20 ZZ Z0) (iU Z1 Z2))) else if x=102 then some (jZ (iU ZV ZW) (iU ZX ZY)) else F1 x
theorem Ir:iJ TP F2:=by
 have hs:=jY mixed Iq sQ 200;intro f g hg args h K hK;unfold F2 at hg;split at hg
 ·rename_i e;subst e;cases hg;rcases cu hK with hK|hK
  ·exact bh hs SH args h K hK
  exact cK hs (by kernel_rfl) SN args h K hK
 split at hg
 ·rename_i e;subst e;cases hg;rcases cu hK with hK|hK
  ·exact bh hs SI args h K hK
  rcases cu hK with hK|hK
  ·exact bh hs SK args h K hK
  rcases cu hK with hK|hK
  ·exact cK hs (by kernel_rfl) SO args h K hK
  exact cK hs (by kernel_rfl) SQ args h K hK
 split at hg
 ·rename_i e;subst e;cases hg;rcases cu hK with hK|hK
  ·exact bh hs SJ args h K hK
  rcases cu hK with hK|hK
  ·exact bh hs SL args h K hK
  rcases cu hK with hK|hK
  ·exact bh hs SM args h K hK
  rcases cu hK with hK|hK
  ·exact cK hs (by kernel_rfl) SP args h K hK
  rcases cu hK with hK|hK
  ·exact cK hs (by kernel_rfl) SS args h K hK
  exact cK hs (by kernel_rfl) SU args h K hK
 split at hg
 ·rename_i e;subst e;cases hg;rcases cu hK with hK|hK
  ·exact cK hs (by kernel_rfl) SV args h K hK
  rcases cu hK with hK|hK
  ·exact bh hs SY args h K hK
  exact cK hs (by kernel_rfl) SZ args h K hK
 split at hg
 ·rename_i e;subst e;cases hg;rcases cu hK with hK|hK
  ·exact cK hs (by kernel_rfl) SW args h K hK
  exact cK hs (by kernel_rfl) SX args h K hK
 exact Iq f g hg args h K hK
def Z3:List AV:=[(.str [80,40,120,32,121,41,32,58,45,32,69,40,120,32,121,41,46,10,80,40,120,32,121,41,32,58,45,32,69,40,120,32,122,41,44,32,80,40,122,32,121,41,46,10])]
def Z4:AV:=(.tuple [(.ax [(.str [80]),(.ax [(.str [120]),(.str [121])] 0 2 1),(.ax [(.int .i64 0),(.bool false),(.str [69]),(.ax [(.str [120]),(.str [121])] 0 2 1)] 0 1 4),(.str [80]),(.ax [(.str [120]),(.str [121])] 0 2 1),(.ax [(.int .i64 0),(.bool false),(.str [69]),(.ax [(.str [120]),(.str [122])] 0 2 1),(.int .i64 0),(.bool false),(.str [80]),(.ax [(.str [122]),(.str [121])] 0 2 1)] 0 2 4)] 0 2 3),(.int .i64 0)])
theorem S0:bQ TP F2 D0 200 44 Z3 Heap.empty (cC true 20 Z4)=true:=by kernel_rfl
def F3:xu:=fun x=>if x=44 then some (iU Z3 Z4) else F2 x
theorem Is:iJ TP F3:=by
 have hs:=jY mixed Ir sQ 200;intro f g hg args h K hK;unfold F3 at hg;split at hg
 ·rename_i e;subst e;cases hg;exact cK hs (by kernel_rfl) S0 args h K hK
 exact Ir f g hg args h K hK
def Z5:List AV:=[(.agg [(.int .i64 3),(.ax [(.str [69]),(.int .i64 2),(.ax [(.ax [(.int .i64 0),(.int .i64 1)] 0 2 1),(.ax [(.int .i64 1),(.int .i64 2)] 0 2 1)] 0 2 1)] 0 1 3)]),(.str [69]),(.ax [(.int .i64 0),(.int .i64 1)] 0 2 1),(.bool false)]
def Z6:AV:=(.tuple [(.agg [(.int .i64 3),(.ax [(.str [69]),(.int .i64 2),(.ax [(.ax [(.int .i64 1),(.int .i64 2)] 0 2 1)] 0 1 1)] 0 1 3)]),(.int .i64 0)])
theorem S1:bQ TP F3 D0 200 18 Z5 Heap.empty (cC false 20 Z6)=true:=by kernel_rfl
end
end Go.AM