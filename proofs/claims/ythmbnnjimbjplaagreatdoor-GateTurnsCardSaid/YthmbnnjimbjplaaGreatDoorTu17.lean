/- Parts of the proof. Conditions: none. -/
import Derived.Test.YthmbnnjimbjplaaGreatDoorTu16
set_option linter.unusedSimpArgs false
set_option linter.unusedVariables false
namespace Go.AM
open List Nat Bool Option
open Go Go.Proofs
noncomputable section
variable {K:Out->Heap->Bool} {h:Heap} {J:AX->St->Bool} {e:Env} {a0 a1 a2:AV} {i n k:Nat} {l:List Int} {α:Type} {p:Nat->Bool} {v a:Int}
noncomputable def F.aY.L0:=partOf (aj Tryz.f17) [1,1,0,1,0,0]
noncomputable def F.aY.cB:=LK 0 Tryz.f17 [1,1,1]
noncomputable def F.aY.L1:=partOf (aj Tryz.f17) [1,1,0,1,0,0,1,0,0,1,1,0,0]
noncomputable def F.aY.oW(J:AX->St->Bool):=(ej 2 (ej 1 (ox false (EV (partOf (aj Tryz.f17) [1,1,0,1,0,0,1,1])) J)))
noncomputable def F.aY.L2:=partOf (aj Tryz.f17) [1,1,0,1,0,0,1,0,0,1,1,0,0,1,0,0,1,1,1,0,0]
noncomputable def F.aY.LJ(J:AX->St->Bool):=(ej 4 (ej 3 (ox false (EV (partOf (aj Tryz.f17) [1,1,0,1,0,0,1,0,0,1,1,0,0,1,1])) J)))
theorem F.aY.aT:EV F.aY.L0 (sM e 89 h) J=(af (bB .slice (e 0) h) fun a=>af (aC .lss (e 5) a) fun b=>let Q1:=(sL e [(8,e 5),(9,e 0),(10,a),(11,b)]);ah b (lP 2 (e 0) (e 5) 1 h fun g i c=>af (bB .slice c h) fun d=>af (aC .gtr d (I6 12)) fun f=>let Q2:=(sL Q1 [(14,e 0),(15,e 5),(16,g),(17,i),(18,c),(19,d),(20,f)]);ah f (J .ret (sM (bZ Q2 2 bF) 89 h)) (bS (EV F.aY.L1) (sM (bZ Q2 6 (I6 0)) 89 h) (F.aY.oW J))) (J (.exit 0) (sM Q1 89 h))):=by kernel_rfl
theorem F.aY.aF:F.aY.cB K (.exit 0) (sM e 89 h)=(af (aC .leq (e 4) (I6 20000)) fun a=>K (.ret a) h):=by kernel_rfl
theorem F.aY.bh:F.aY.cB K .ret (sM e 89 h)=(K (.ret (e 2)) h):=by kernel_rfl
theorem F.aY.ff:EV F.aY.L1 (sM e 89 h) J=(lP 2 (e 0) (e 5) 1 h fun w x d=>af (bB .slice d h) fun f=>af (aC .lss (e 6) f) fun g=>let Q1:=(sL e [(21,e 6),(22,e 0),(23,e 5),(24,w),(25,x),(26,d),(27,f),(28,g)]);ah g (lP 2 (e 0) (e 5) 1 h fun o p i=>lP 3 i (e 6) 2 h fun q r j=>af (bB .slice j h) fun k=>af (aC .add (e 3) k) fun a=>af (aC .gtr a (I6 1500)) fun b=>let Q2:=(sL Q1 [(31,e 3),(32,e 0),(33,e 5),(34,o),(35,p),(36,i),(37,e 6),(38,q),(39,r),(40,j),(41,k),(42,a),(3,a),(43,a),(44,b),(45,b)]);ah b (J .ret (sM (sL Q2 [(45,bT),(46,aZ),(45,bT),(47,aZ),(45,bT),(48,aZ),(45,bT),(49,aZ),(45,bT),(50,aZ),(45,bT),(51,aZ),(45,bT),(52,aZ),(45,bT),(53,aZ),(45,bT),(54,aZ),(45,bT),(55,aZ),(45,bT),(56,aZ),(57,bT),(2,bF)]) 89 h)) (lP 2 (e 0) (e 5) 1 h fun s t l=>lP 3 l (e 6) 0 h fun u v m=>af (bB .str m h) fun n=>af (aC .gtr n (I6 1000)) fun c=>let Q3:=(sL Q2 [(45,bF),(46,e 0),(45,bF),(47,e 5),(45,bF),(48,s),(45,bF),(49,t),(45,bF),(50,l),(45,bF),(51,e 6),(45,bF),(52,u),(45,bF),(53,v),(45,bF),(54,m),(45,bF),(55,n),(45,bF),(56,c),(57,c)]);ah c (J .ret (sM (bZ Q3 2 bF) 89 h)) (bS (EV F.aY.L2) (sM (bZ Q3 7 (I6 0)) 89 h) (F.aY.LJ J)))) (J (.exit 2) (sM Q1 89 h))):=by kernel_rfl
theorem F.aY.dL:F.aY.oW J (.exit 2) (sM e 89 h)=(af (aC .add (e 5) (I6 1)) fun a=>J .normal (sM (sL e [(12,e 5),(13,a),(5,a)]) 89 h)):=by kernel_rfl
theorem F.aY.zl:F.aY.oW J .ret (sM e 89 h)=(J .ret (sM e 89 h)):=by kernel_rfl
theorem F.aY.AW:EV F.aY.L2 (sM e 89 h) J=(lP 2 (e 0) (e 5) 1 h fun m n a=>lP 3 a (e 6) 2 h fun o p b=>af (bB .slice b h) fun c=>af (aC .lss (e 7) c) fun d=>let Q1:=(sL e [(58,e 7),(59,e 0),(60,e 5),(61,m),(62,n),(63,a),(64,e 6),(65,o),(66,p),(67,b),(68,c),(69,d)]);ah d (lP 2 (e 0) (e 5) 1 h fun q r f=>lP 3 f (e 6) 2 h fun s t g=>il 1 g (e 7) h fun u i=>af (bB .slice i h) fun j=>af (aC .add (e 4) j) fun k=>af (aC .add (e 7) (I6 1)) fun l=>J .normal (sM (sL Q1 [(72,e 4),(73,e 0),(74,e 5),(75,q),(76,r),(77,f),(78,e 6),(79,s),(80,t),(81,g),(82,e 7),(83,u),(84,i),(85,j),(86,k),(4,k),(70,e 7),(71,l),(7,l)]) 89 h)) (J (.exit 4) (sM Q1 89 h))):=by kernel_rfl
theorem F.aY.vt:F.aY.LJ J (.exit 4) (sM e 89 h)=(af (aC .add (e 6) (I6 1)) fun a=>J .normal (sM (sL e [(29,e 6),(30,a),(6,a)]) 89 h)):=by kernel_rfl
theorem F.zm:EV (aj Tryz.f17) (sM (az [a0]) 89 h) (RL Tryz.f17 K)=(bS (EV F.aY.L0) (sM (sL (az [a0]) [(2,bF),(3,I6 0),(4,I6 0),(5,I6 0)]) 89 h) (F.aY.cB K)):=by kernel_rfl
theorem F.w9(hh:EV (aj Tryz.f17) (sM (az [a0]) 89 h) (RL Tryz.f17 K)=true):Sem TP 17 [a0] h K:=
 SB Tryz.func17 hh
theorem F.AY:EV (aj Tryz.f18) (sM (az [a0,a1]) 22 h) (RL Tryz.f18 K)=(af (eR a0) fun b=>af (eR a1) fun c=>af (au (some 2) (nP h) (hA (hA h b) c)) fun n=>af (au (some 2) (.ptr (Heap.next (hA h b)) 0) (hA (hA h b) c)) fun o=>aq TP 56 [n,o] (hA (hA h b) c) (bH (fun d f=>af (aW d 0) fun p=>af (aW d 1) fun s=>af (aW d 2) fun a=>af (jN (.int .i64) a (I6 0)) fun g=>ah g (K (.ret (.tuple [bF,a])) f) (af (au (some 2) (nP h) f) fun i=>aq TP 57 [i,p] f (bH (fun j k=>K (.ret (.tuple [j,(I6 0)])) k) (pK K)))) (pK K))):=by kernel_rfl
theorem F.zn(hh:EV (aj Tryz.f18) (sM (az [a0,a1]) 22 h) (RL Tryz.f18 K)=true):Sem TP 18 [a0,a1] h K:=
 SB Tryz.func18 hh
theorem F.vB:EV (aj Tryz.f19) (sM (az [a0,a1]) 26 h) (RL Tryz.f19 K)=(af (eR a0) fun b=>af (eR a1) fun t=>af (au (some 2) (nP h) (hA (hA h b) t)) fun u=>aq TP 13 [u] (hA (hA h b) t) (bH (fun v g=>af (j4 .not v) fun w=>ah w (K (.ret (I6 1)) g) (af (au (some 2) (.ptr (Heap.next (hA h b)) 0) g) fun x=>aq TP 58 [x] g (bH (fun y a=>af (j4 .not y) fun i=>ah i (K (.ret (I6 1)) a) (fl 0 (nP h) a fun z j=>fl 0 (.ptr (Heap.next (hA h b)) 0) a fun A k=>af (jN (.int .i64) j k) fun l=>ah l (K (.ret (I6 2)) a) (af (au (some 2) (.ptr (Heap.next (hA h b)) 0) a) fun c=>af (au (some 2) (nP h) a) fun m=>aq TP 29 [m] a (bH (fun n d=>if ((af (au (some 2) (.ptr (Heap.next (hA h b)) 0) d) fun o=>AV.beq o c)&&true)=true then (aq TP 59 [c,n] d (bH (fun p f=>af (j4 .not p) fun q=>ah q (K (.ret (I6 4)) f) (K (.ret (I6 0)) f)) fF)) else false) fF)))) (pK K)))) (pK K))):=by kernel_rfl
theorem F.tg(hh:EV (aj Tryz.f19) (sM (az [a0,a1]) 26 h) (RL Tryz.f19 K)=true):Sem TP 19 [a0,a1] h K:=
 SB Tryz.func19 hh
noncomputable def F.b7.L0:=partOf (aj Tryz.f29) [1,1,1,0,1,0,0]
noncomputable def F.b7.cB:=LK 0 Tryz.f29 [1,1,1,1]
theorem F.b7.aT:EV F.b7.L0 (sM e 49 h) J=(fl 1 (e 1) h fun R I=>af (bB .slice I h) fun L=>af (aC .lss (e 5) L) fun M=>let Q1:=(sL e [(8,e 5),(9,R),(10,I),(11,L),(12,M)]);ah M (fl 1 (e 1) h fun S N=>af (iZ 4 N (e 5)) fun O=>af (au (some 4) O h) fun P=>af (bD 4 (nP h) P (hA h [(I6 0),(.str []),.aE,.aE])) fun b=>fl 0 (nP h) b fun x i=>af (fQ (.int .i64) i (I6 1)) fun c=>let Q2:=(sL Q1 [(15,S),(16,N),(17,e 5),(18,O),(19,P),(6,nP h),(20,x),(21,i),(22,c),(23,c)]);ah c (fl 1 (nP h) b fun y j=>af (dy .string bF false (e 4) j b) fun k=>af (j4 .not k) fun d=>let Q3:=(sL Q2 [(23,bT),(24,e 4),(23,bT),(25,y),(23,bT),(26,j),(23,bT),(27,k),(23,bT),(28,d),(29,d)]);ah d (fl 1 (nP h) b fun z l=>af (cF .string (e 4) l bT b) fun a=>fl 2 (e 3) a fun A m=>fl 1 (nP h) a fun B n=>fl 2 (nP h) a fun C o=>af (bB .slice o a) fun f=>cT (dS 1 16 [(.str [])] f f a) fun p g=>af (ko [(.str []),.aE] [(0,1),(1,1)] [n,p]) fun q=>af (ko [(I6 0),bF,(.str []),.aE] [(0,1),(2,2)] [(I6 0),q]) fun r=>af (eY [(I6 0),bF,(.str []),.aE] [(0,4)] [r]) fun D=>cT (bP 4 56 m (.slice (Heap.next g) 0 1 4) (hA g D)) fun s E=>af (sV 2 (e 3)) fun t=>af (bD 1 t s E) fun G=>af (aC .add (e 5) (I6 1)) fun u=>J .normal (sM (sL Q3 [(30,e 4),(31,z),(32,l),(33,A),(34,m),(35,B),(36,n),(37,C),(38,o),(39,f),(40,p),(41,q),(42,r),(43,.slice (Heap.next g) 0 1 4),(44,s),(45,t),(13,e 5),(14,u),(5,u)]) 49 G)) (af (aC .add (e 5) (I6 1)) fun v=>J .normal (sM (sL Q3 [(13,e 5),(14,v),(5,v)]) 49 b))) (af (aC .add (e 5) (I6 1)) fun w=>J .normal (sM (sL Q2 [(23,bF),(24,aZ),(23,bF),(25,aZ),(23,bF),(26,aZ),(23,bF),(27,aZ),(23,bF),(28,aZ),(29,bF),(13,e 5),(14,w),(5,w)]) 49 b))) (J (.exit 0) (sM Q1 49 h))):=by kernel_rfl
theorem F.b7.aF:F.b7.cB K (.exit 0) (sM e 49 h)=(af (au (some 3) (e 3) h) fun a=>af (eY [(.str []),.aE,.aE] [(0,3)] [a]) fun b=>aq TP 77 [(.slice (Heap.next h) 0 1 3)] (hA h b) (bH (rK K) (pK K))):=by kernel_rfl
theorem F.rE:EV (aj Tryz.f29) (sM (az [a0]) 49 h) (RL Tryz.f29 K)=(af (eR a0) fun a=>bS (EV F.b7.L0) (sM (sL (az [a0]) [(1,nP h),(2,.aE),(3,.ptr (Heap.next (hA h a)) 0),(7,.map (Heap.next (hA (hA h a) [(.str []),.aE,.aE]))),(4,.map (Heap.next (hA (hA h a) [(.str []),.aE,.aE]))),(5,I6 0)]) 49 (Heap.alloc (hA (hA h a) [(.str []),.aE,.aE]) (.map [] 0))) (F.b7.cB K)):=by kernel_rfl
theorem F.qh(hh:EV (aj Tryz.f29) (sM (az [a0]) 49 h) (RL Tryz.f29 K)=true):Sem TP 29 [a0] h K:=
 SB Tryz.func29 hh
noncomputable def F.bM.L0:=partOf (aj Tryz.f56) [1,1,1,1,1,0,1,0,0]
noncomputable def F.bM.cB:=LK 0 Tryz.f56 [1,1,1,1,1,1]
noncomputable def F.bM.L1:=partOf (aj Tryz.f56) [1,1,1,1,1,0,1,0,0,1,1,0,1,1,1,1,1,1,0,0]
noncomputable def F.bM.oW(J:AX->St->Bool):=(ej 2 (ej 1 J))
theorem F.bM.aT:EV F.bM.L0 (sM e 87 h) J=(af (uq false (e 38) h) (jg [] (Jx (fun n f=>af (aW n 0) fun o=>let Q1:=(sL e [(39,n),(40,o)]);ah o (af (qL (e 38) f) fun g=>af (aW g 0) fun b=>af (aW g 1) fun a=>af (au (some 2) (e 3) f) fun k=>aq TP 100 [k,b,a] f (bH (fun c l=>af (aC .lss c (I6 0)) fun p=>let Q2:=(sL Q1 [(41,g),(42,b),(43,a),(10,b),(11,a),(44,k),(45,b),(46,a),(47,c),(12,c),(48,c),(49,p)]);ah p (J .ret (sM (sL Q2 [(4,.dI),(5,.dI),(6,I6 4)]) 87 l)) (fl 0 (e 3) l fun q m=>aq TP 110 [m,a] l (bH (fun i v=>af (aW i 0) fun d=>af (aW i 1) fun r=>cT (dS 1 1 [bF] d d v) fun s w=>af (cF .string (e 9) b s w) fun j=>fl 1 (e 3) j fun x t=>lP 3 t c 2 j fun y z u=>af (bB .slice u j) fun A=>bS (EV F.bM.L1) (sM (sL Q2 [(51,q),(52,m),(53,a),(54,i),(50,i),(55,d),(56,r),(13,d),(14,r),(57,e 9),(58,b),(59,d),(60,s),(61,x),(62,t),(63,c),(64,y),(65,z),(66,u),(67,A),(68,I6 0)]) 87 j) (F.bM.oW J)) (pS J (sL Q2 [(51,q),(52,m),(53,a)]) 87)))) (pS J (sL Q1 [(41,g),(42,b),(43,a),(10,b),(11,a),(44,k),(45,b),(46,a)]) 87))) (J (.exit 0) (sM Q1 87 f))) (pS J e 87)))):=by kernel_rfl
theorem F.bM.aF:F.bM.cB K (.exit 0) (sM e 87 h)=(K (.ret (.tuple [(e 9),(e 7),(I6 0)])) h):=by kernel_rfl
theorem F.bM.bh:F.bM.cB K .ret (sM e 87 h)=(K (.ret (.tuple [(e 4),(e 5),(e 6)])) h):=by kernel_rfl
theorem F.bM.ff:EV F.bM.L1 (sM e 87 h) J=(af (aC .lss (e 68) (e 67)) fun b=>ah b (il 1 (e 66) (e 68) h fun g a=>fl 0 (e 3) h fun i f=>aq TP 111 [f,a] h (bH (fun c j=>af (aW c 0) fun d=>af (aW c 1) fun k=>af (dy .string .aE false (e 9) (e 10) j) fun l=>af (iZ 1 l d) fun m=>af (bD 1 m bT j) fun o=>af (aC .add (e 68) (I6 1)) fun n=>J .normal (sM (sL e [(69,b),(70,g),(71,a),(16,a),(73,i),(74,f),(75,a),(76,c),(72,c),(77,d),(78,k),(17,d),(18,k),(79,e 9),(80,e 10),(81,l),(82,d),(83,m),(84,n),(68,n)]) 87 o)) (pS J (sL e [(69,b),(70,g),(71,a),(16,a),(73,i),(74,f),(75,a)]) 87))) (J (.exit 2) (sM (bZ e 69 b) 87 h))):=by kernel_rfl
theorem F.bM.dL:F.bM.oW J (.exit 2) (sM e 87 h)=(J .normal (sM e 87 h)):=by kernel_rfl
theorem F.zo:EV (aj Tryz.f56) (sM (az [a0,a1]) 87 h) (RL Tryz.f56 K)=(af (eR a0) fun c=>af (eR a1) fun v=>af (au (some 2) (nP h) (hA (hA h c) v)) fun w=>aq TP 54 [w] (hA (hA h c) v) (bH (fun k n=>af (aW k 0) fun l=>af (aW k 1) fun m=>af (j4 .not m) fun o=>ah o (K (.ret (.tuple [.dI,.dI,(I6 1)])) n) (af (au (some 2) (.ptr (Heap.next (hA h c)) 0) n) fun d=>aq TP 99 [d] n (bH (fun f a=>af (j4 .not f) fun b=>ah b (K (.ret (.tuple [.dI,.dI,(I6 1)])) a) (fl 0 (nP h) a fun p g=>fl 0 (.ptr (Heap.next (hA h c)) 0) a fun q i=>af (jN (.int .i64) g i) fun j=>ah j (K (.ret (.tuple [.dI,.dI,(I6 2)])) a) (cT (nV .map l (Heap.alloc a (.map [] 0))) fun r s=>bS (EV F.bM.L0) (sM (sL (az [a0,a1]) [(2,nP h),(3,.ptr (Heap.next (hA h c)) 0),(4,.dI),(5,.dI),(6,I6 0),(20,w),(21,k),(19,k),(22,l),(23,m),(7,l),(8,m),(24,m),(25,o),(26,o),(26,bF),(27,d),(26,bF),(28,f),(26,bF),(29,b),(30,b),(31,p),(32,g),(33,q),(34,i),(35,j),(36,.map (Heap.next a)),(9,.map (Heap.next a)),(37,l),(38,r)]) 87 s) (F.bM.cB K)))) (pK K)))) (pK K))):=by kernel_rfl
theorem F.xd(hh:EV (aj Tryz.f56) (sM (az [a0,a1]) 87 h) (RL Tryz.f56 K)=true):Sem TP 56 [a0,a1] h K:=
 SB Tryz.func56 hh
noncomputable def F.cK.L0:=partOf (aj Tryz.f57) [1,1,0,1,0,0]
noncomputable def F.cK.cB:=LK 0 Tryz.f57 [1,1,1]
theorem F.cK.aT:EV F.cK.L0 (sM e 80 h) J=(af (aC .lss (e 17) (e 16)) fun p=>let Q1:=(bZ e 18 p);ah p (af (iZ 4 (e 15) (e 17)) fun q=>af (au (some 4) q h) fun r=>af (bD 4 (nP h) r (hA h [(I6 0),(.str []),.aE,.aE])) fun a=>fl 0 (nP h) a fun Y d=>af (fQ (.int .i64) d (I6 0)) fun i=>let Q2:=(sL Q1 [(19,e 17),(20,q),(21,r),(7,nP h),(6,e 17),(22,Y),(23,d),(36,i),(35,i)]);ah i (af (au none (e 5) a) fun s=>af (iZ 1 s (e 17)) fun t=>af (bD 1 t bT a) fun Z=>af (aC .add (e 17) (I6 1)) fun u=>J .normal (sM (sL Q2 [(37,s),(38,e 17),(39,t),(73,u),(17,u)]) 80 Z)) (af (fQ (.int .i64) d (I6 1)) fun j=>let Q3:=(sL Q2 [(41,j),(40,j)]);ah j (fl 0 (e 2) a fun v k=>fl 2 (nP h) a fun w l=>aq TP 111 [k,l] a (bH (fun f b=>af (aW f 0) fun g=>af (aW f 1) fun x=>af (au none (e 5) b) fun y=>fl 1 (nP h) b fun Rk z=>af (dy .string .aE false (e 1) z b) fun A=>il 1 A g b fun Rl B=>af (iZ 1 y (e 17)) fun C=>af (bD 1 C B b) fun KA=>af (aC .add (e 17) (I6 1)) fun D=>J .normal (sM (sL Q3 [(43,v),(44,k),(45,w),(46,l),(47,f),(42,f),(48,g),(49,x),(8,g),(9,x),(50,y),(51,e 17),(52,e 1),(53,Rk),(54,z),(55,A),(56,g),(57,Rl),(58,B),(59,C),(73,D),(17,D)]) 80 KA)) (pS J (sL Q3 [(43,v),(44,k),(45,w),(46,l)]) 80))) (af (fQ (.int .i64) d (I6 2)) fun c=>ah c (af (au none (e 5) a) fun E=>af (au none (e 5) a) fun G=>fl 3 (nP h) a fun Rm I=>il 1 I (I6 0) a fun O6 L=>il 1 G L a fun Rn M=>af (j4 .not M) fun N=>af (iZ 1 E (e 17)) fun O=>af (bD 1 O N a) fun ND=>af (aC .add (e 17) (I6 1)) fun P=>J .normal (sM (sL Q3 [(61,c),(60,c),(62,E),(63,e 17),(64,G),(65,Rm),(66,I),(67,O6),(68,L),(69,Rn),(70,M),(71,N),(72,O),(73,P),(17,P)]) 80 ND)) (af (au none (e 5) a) fun m=>fl 3 (nP h) a fun Ro R=>fl 0 (nP h) a fun S n=>af (fQ (.int .i64) n (I6 4)) fun T=>aq TP 112 [R,(.func 113 [] [(e 5),(nP h)])] a (bH (fun U o=>if ((af (au none S o) fun Rp=>AV.beq Rp n)&&((af (au none (e 5) o) fun O9=>AV.beq O9 m)&&true))=true then (af (fQ .bool U T) fun V=>af (iZ 1 m (e 17)) fun W=>af (bD 1 W V o) fun NF=>af (aC .add (e 17) (I6 1)) fun X=>J .normal (sM (sL Q3 [(61,c),(60,c),(24,m),(25,e 17),(26,Ro),(27,R),(28,.func 113 [] [(e 5),(nP h)]),(30,S),(31,n),(32,T),(29,U),(33,V),(34,W),(73,X),(17,X)]) 80 NF)) else false) fF))))) (J (.exit 0) (sM Q1 80 h))):=by kernel_rfl
theorem F.cK.aF:F.cK.cB K (.exit 0) (sM e 80 h)=(af (au none (e 5) h) fun a=>af (au none (e 5) h) fun b=>af (bB .slice b h) fun c=>af (aC .sub c (I6 1)) fun d=>il 1 a d h fun g f=>K (.ret f) h):=by kernel_rfl
theorem F.vC:EV (aj Tryz.f57) (sM (az [a0,a1]) 80 h) (RL Tryz.f57 K)=(af (eR a0) fun a=>fl 1 (nP h) (hA h a) fun j f=>af (bB .slice f (hA h a)) fun b=>cT (dS 1 1 [bF] b b (hA h a)) fun g c=>af (bD 1 (nP c) g (hA c [.aE])) fun d=>fl 1 (nP h) d fun k i=>af (bB .slice i d) fun l=>bS (EV F.cK.L0) (sM (sL (az [a0,a1]) [(2,nP h),(4,bF),(10,j),(11,f),(12,b),(13,g),(5,nP c),(14,k),(15,i),(16,l),(17,I6 0)]) 80 d) (F.cK.cB K)):=by kernel_rfl
theorem F.th(hh:EV (aj Tryz.f57) (sM (az [a0,a1]) 80 h) (RL Tryz.f57 K)=true):Sem TP 57 [a0,a1] h K:=
 SB Tryz.func57 hh
noncomputable def F.bq.L0:=partOf (aj Tryz.f58) [1,1,0,1,0,0]
noncomputable def F.bq.cB:=LK 0 Tryz.f58 [1,1,1]
noncomputable def F.bq.L1:=partOf (aj Tryz.f58) [1,1,0,1,0,0,1,0,0,1,1,0,0]
noncomputable def F.bq.oW(J:AX->St->Bool):=(ej 2 (ej 1 (ox false (EV (partOf (aj Tryz.f58) [1,1,0,1,0,0,1,1])) J)))
theorem F.bq.aT:EV F.bq.L0 (sM e 53 h) J=(fl 1 (e 1) h fun m a=>af (bB .slice a h) fun b=>af (aC .lss (e 3) b) fun c=>let Q1:=(sL e [(19,e 3),(20,m),(21,a),(22,b),(23,c)]);ah c (fl 0 (e 1) h fun n d=>fl 1 (e 1) h fun o f=>af (iZ 3 f (e 3)) fun g=>af (au (some 3) g h) fun i=>aq TP 114 [d,i] h (bH (fun j k=>af (j4 .not j) fun l=>let Q2:=(sL Q1 [(26,n),(27,d),(28,o),(29,f),(30,e 3),(31,g),(32,i),(33,j),(34,l)]);ah l (J .ret (sM (bZ Q2 2 bF) 53 k)) (bS (EV F.bq.L1) (sM (bZ Q2 4 (I6 0)) 53 k) (F.bq.oW J))) fF)) (J (.exit 0) (sM Q1 53 h))):=by kernel_rfl
theorem F.bq.aF:F.bq.cB K (.exit 0) (sM e 53 h)=(K (.ret bT) h):=by kernel_rfl
theorem F.bq.bh:F.bq.cB K .ret (sM e 53 h)=(K (.ret (e 2)) h):=by kernel_rfl
theorem F.bq.ff:EV F.bq.L1 (sM e 53 h) J=(af (aC .lss (e 4) (e 3)) fun a=>let Q1:=(sL e [(35,e 4),(36,e 3),(37,a)]);ah a (fl 1 (e 1) h fun j b=>lP 3 b (e 4) 0 h fun k l c=>fl 1 (e 1) h fun m d=>lP 3 d (e 3) 0 h fun n o f=>af (fQ .string c f) fun g=>let Q2:=(sL Q1 [(40,j),(41,b),(42,e 4),(43,k),(44,l),(45,c),(46,m),(47,d),(48,e 3),(49,n),(50,o),(51,f),(52,g)]);ah g (J .ret (sM (bZ Q2 2 bF) 53 h)) (af (aC .add (e 4) (I6 1)) fun i=>J .normal (sM (sL Q2 [(38,e 4),(39,i),(4,i)]) 53 h))) (J (.exit 2) (sM Q1 53 h))):=by kernel_rfl
theorem F.bq.dL:F.bq.oW J (.exit 2) (sM e 53 h)=(af (aC .add (e 3) (I6 1)) fun a=>J .normal (sM (sL e [(24,e 3),(25,a),(3,a)]) 53 h)):=by kernel_rfl
theorem F.bq.zl:F.bq.oW J .ret (sM e 53 h)=(J .ret (sM e 53 h)):=by kernel_rfl
theorem F.vE:EV (aj Tryz.f58) (sM (az [a0]) 53 h) (RL Tryz.f58 K)=(af (eR a0) fun a=>fl 0 (nP h) (hA h a) fun k f=>af (aC .lss f (I6 1)) fun d=>ah d (K (.ret bF) (hA h a)) (fl 0 (nP h) (hA h a) fun l g=>af (aC .gtr g (I6 64)) fun c=>ah c (K (.ret bF) (hA h a)) (fl 1 (nP h) (hA h a) fun m i=>af (bB .slice i (hA h a)) fun j=>af (aC .gtr j (I6 8)) fun b=>ah b (K (.ret bF) (hA h a)) (bS (EV F.bq.L0) (sM (sL (az [a0]) [(1,nP h),(2,bF),(5,k),(6,f),(7,d),(8,d),(8,bF),(9,l),(8,bF),(10,g),(8,bF),(11,c),(12,c),(13,c),(13,bF),(14,m),(13,bF),(15,i),(13,bF),(16,j),(13,bF),(17,b),(18,b),(3,I6 0)]) 53 (hA h a)) (F.bq.cB K))))):=by kernel_rfl
theorem F.tj(hh:EV (aj Tryz.f58) (sM (az [a0]) 53 h) (RL Tryz.f58 K)=true):Sem TP 58 [a0] h K:=
 SB Tryz.func58 hh
noncomputable def F.cJ.L0:=partOf (aj Tryz.f59) [1,0,1,0,0]
noncomputable def F.cJ.cB:=LK 0 Tryz.f59 [1,1]
theorem F.cJ.aT:EV F.cJ.L0 (sM e 36 h) J=(af (bB .slice (e 1) h) fun p=>af (aC .lss (e 5) p) fun q=>let Q1:=(sL e [(7,e 5),(8,e 1),(9,p),(10,q)]);ah q (af (au (some 2) (e 2) h) fun r=>lP 2 (e 1) (e 5) 0 h fun t u s=>aq TP 85 [r,s] h (bH (fun b c=>af (aC .lss b (I6 0)) fun j=>let Q2:=(sL Q1 [(13,r),(14,e 1),(15,e 5),(16,t),(17,u),(18,s),(19,b),(6,b),(20,b),(21,j),(22,j)]);ah j (J .ret (sM (sL Q2 [(22,bT),(23,aZ),(22,bT),(24,aZ),(22,bT),(25,aZ),(22,bT),(26,aZ),(22,bT),(27,aZ),(22,bT),(28,aZ),(22,bT),(29,aZ),(22,bT),(30,aZ),(22,bT),(31,aZ),(22,bT),(32,aZ),(22,bT),(33,aZ),(22,bT),(34,aZ),(35,bT),(4,bF)]) 36 c)) (fl 1 (e 2) c fun k d=>lP 3 d b 1 c fun l m f=>lP 2 (e 1) (e 5) 1 c fun n o g=>af (jN (.int .i64) f g) fun a=>let Q3:=(sL Q2 [(22,bF),(23,k),(22,bF),(24,d),(22,bF),(25,b),(22,bF),(26,l),(22,bF),(27,m),(22,bF),(28,f),(22,bF),(29,e 1),(22,bF),(30,e 5),(22,bF),(31,n),(22,bF),(32,o),(22,bF),(33,g),(22,bF),(34,a),(35,a)]);ah a (J .ret (sM (bZ Q3 4 bF) 36 c)) (af (aC .add (e 5) (I6 1)) fun i=>J .normal (sM (sL Q3 [(11,e 5),(12,i),(5,i)]) 36 c)))) fF)) (J (.exit 0) (sM Q1 36 h))):=by kernel_rfl
theorem F.cJ.aF:F.cJ.cB K (.exit 0) (sM e 36 h)=(K (.ret bT) h):=by kernel_rfl
theorem F.cJ.bh:F.cJ.cB K .ret (sM e 36 h)=(K (.ret (e 4)) h):=by kernel_rfl
theorem F.xe:EV (aj Tryz.f59) (sM (az [a0,a1]) 36 h) (RL Tryz.f59 K)=(af (eR a0) fun a=>bS (EV F.cJ.L0) (sM (sL (az [a0,a1]) [(2,nP h),(4,bF),(5,I6 0)]) 36 (hA h a)) (F.cJ.cB K)):=by kernel_rfl
theorem F.vF(hh:EV (aj Tryz.f59) (sM (az [a0,a1]) 36 h) (RL Tryz.f59 K)=true):Sem TP 59 [a0,a1] h K:=
 SB Tryz.func59 hh
noncomputable def F.bg.L0:=partOf (aj Tryz.f77) [1,1,1,1,0,1,0,0]
noncomputable def F.bg.cB:=LK 0 Tryz.f77 [1,1,1,1,1]
noncomputable def F.bg.L1:=partOf (aj Tryz.f77) [1,1,1,1,1,1,0,1,0,0]
noncomputable def F.bg.oW:=LK 2 Tryz.f77 [1,1,1,1,1,1,1]
theorem F.bg.aT:EV F.bg.L0 (sM e 55 h) J=(af (bB .slice (e 5) h) fun t=>af (aC .lss (e 6) t) fun u=>let Q1:=(sL e [(13,e 6),(14,e 5),(15,t),(16,u)]);ah u (lP 2 (e 5) (e 6) 0 h fun d f a=>aq TP 119 [(e 3),a] h (bH (fun g b=>af (j4 .not g) fun i=>let Q2:=(sL Q1 [(19,e 3),(20,e 5),(21,e 6),(22,d),(23,f),(24,a),(25,g),(26,i)]);ah i (lP 2 (e 5) (e 6) 0 b fun j k c=>aq TP 139 [(e 4),c] b (bH (fun l o=>af (aC .add (e 6) (I6 1)) fun m=>J .normal (sM (sL Q2 [(27,e 4),(28,e 5),(29,e 6),(30,j),(31,k),(32,c),(33,l),(4,l),(17,e 6),(18,m),(6,m)]) 55 o)) (pS J (sL Q2 [(27,e 4),(28,e 5),(29,e 6),(30,j),(31,k),(32,c)]) 55))) (af (aC .add (e 6) (I6 1)) fun n=>J .normal (sM (sL Q2 [(17,e 6),(18,n),(6,n)]) 55 b))) (pS J (sL Q1 [(19,e 3),(20,e 5),(21,e 6),(22,d),(23,f),(24,a)]) 55))) (J (.exit 0) (sM Q1 55 h))):=by kernel_rfl
theorem F.bg.aF:F.bg.cB K (.exit 0) (sM e 55 h)=(bS (EV F.bg.L1) (sM (sL e [(7,.aE),(8,I6 0)]) 55 h) (F.bg.oW K)):=by kernel_rfl
theorem F.bg.ff:EV F.bg.L1 (sM e 55 h) J=(af (bB .slice (e 4) h) fun c=>af (aC .lss (e 8) c) fun d=>let Q1:=(sL e [(34,e 8),(35,e 4),(36,c),(37,d)]);ah d (il 1 (e 4) (e 8) h fun f b=>il 1 (e 4) (e 8) h fun m g=>aq TP 140 [(e 0),g] h (bH (fun i a=>if ((af (au none f a) fun n=>AV.beq n b)&&true)=true then (af (ko [(.str []),(I6 0)] [(0,1),(1,1)] [b,i]) fun j=>af (eY [(.str []),(I6 0)] [(0,2)] [j]) fun o=>cT (bP 2 24 (e 7) (.slice (Heap.next a) 0 1 2) (hA a o)) fun k p=>af (aC .add (e 8) (I6 1)) fun l=>J .normal (sM (sL Q1 [(40,e 7),(41,e 4),(42,e 8),(43,f),(44,b),(45,e 0),(46,e 4),(47,e 8),(48,m),(49,g),(50,i),(51,j),(52,.slice (Heap.next a) 0 1 2),(53,k),(7,k),(38,e 8),(39,l),(8,l)]) 55 p)) else false) fF)) (J (.exit 2) (sM Q1 55 h))):=by kernel_rfl
theorem F.bg.dL:F.bg.oW K (.exit 2) (sM e 55 h)=(K (.ret (e 7)) h):=by kernel_rfl
theorem F.rF:EV (aj Tryz.f77) (sM (az [a0]) 55 h) (RL Tryz.f77 K)=(aq TP 137 [a0] h (bH (fun a c=>aq TP 138 [a0] c (bH (fun b d=>bS (EV F.bg.L0) (sM (sL (az [a0]) [(2,.aE),(9,a0),(10,a),(3,a),(4,.aE),(11,a0),(12,b),(5,b),(6,I6 0)]) 55 d) (F.bg.cB K)) (pK K))) (pK K))):=by kernel_rfl
theorem F.qi(hh:EV (aj Tryz.f77) (sM (az [a0]) 55 h) (RL Tryz.f77 K)=true):Sem TP 77 [a0] h K:=
 SB Tryz.func77 hh
noncomputable def F.cV.L0:=partOf (aj Tryz.f85) [1,0,1,0,0]
noncomputable def F.cV.cB:=LK 0 Tryz.f85 [1,1]
theorem F.cV.aT:EV F.cV.L0 (sM e 22 h) J=(fl 1 (e 2) h fun j c=>af (bB .slice c h) fun d=>af (aC .lss (e 5) d) fun f=>let Q1:=(sL e [(6,e 5),(7,j),(8,c),(9,d),(10,f)]);ah f (fl 1 (e 2) h fun k g=>lP 3 g (e 5) 0 h fun l m i=>af (fQ .string i (e 1)) fun a=>let Q2:=(sL Q1 [(13,k),(14,g),(15,e 5),(16,l),(17,m),(18,i),(19,e 1),(20,a)]);ah a (J .ret (sM (sL Q2 [(21,e 5),(4,e 5)]) 22 h)) (af (aC .add (e 5) (I6 1)) fun b=>J .normal (sM (sL Q2 [(11,e 5),(12,b),(5,b)]) 22 h))) (J (.exit 0) (sM Q1 22 h))):=by kernel_rfl
theorem F.cV.aF:F.cV.cB K (.exit 0) (sM e 22 h)=(K (.ret (I6 (-1))) h):=by kernel_rfl
theorem F.cV.bh:F.cV.cB K .ret (sM e 22 h)=(K (.ret (e 4)) h):=by kernel_rfl
theorem F.xg:EV (aj Tryz.f85) (sM (az [a0,a1]) 22 h) (RL Tryz.f85 K)=(af (eR a0) fun a=>bS (EV F.cV.L0) (sM (sL (az [a0,a1]) [(2,nP h),(4,I6 0),(5,I6 0)]) 22 (hA h a)) (F.cV.cB K)):=by kernel_rfl
theorem F.vG(hh:EV (aj Tryz.f85) (sM (az [a0,a1]) 22 h) (RL Tryz.f85 K)=true):Sem TP 85 [a0,a1] h K:=
 SB Tryz.func85 hh
noncomputable def F.dP.L0:=partOf (aj Tryz.f87) [1,1,0,1,0,0]
noncomputable def F.dP.cB:=LK 0 Tryz.f87 [1,1,1]
theorem F.dP.aT:EV F.dP.L0 (sM e 20 h) J=(af (aC .lss (e 6) (e 1)) fun a=>let Q1:=(sL e [(7,e 6),(8,e 1),(9,a),(10,a)]);ah a (af (aC .leq (e 5) (I6 4096)) fun b=>let Q2:=(sL Q1 [(10,bT),(11,e 5),(10,bT),(12,b),(13,b)]);ah b (af (aC .mul (e 5) (e 0)) fun c=>af (aC .add (e 6) (I6 1)) fun d=>J .normal (sM (sL Q2 [(16,e 5),(17,e 0),(18,c),(5,c),(14,e 6),(15,d),(6,d)]) 20 h)) (J (.exit 0) (sM Q2 20 h))) (J (.exit 0) (sM (sL Q1 [(10,bF),(11,aZ),(10,bF),(12,aZ),(13,bF)]) 20 h))):=by kernel_rfl
theorem F.dP.aF:F.dP.cB K (.exit 0) (sM e 20 h)=(K (.ret (e 5)) h):=by kernel_rfl
theorem F.zq:EV (aj Tryz.f87) (sM (az [a0,a1]) 20 h) (RL Tryz.f87 K)=(bS (EV F.dP.L0) (sM (sL (az [a0,a1]) [(4,I6 0),(5,I6 1),(6,I6 0)]) 20 h) (F.dP.cB K)):=by kernel_rfl
theorem F.xh(hh:EV (aj Tryz.f87) (sM (az [a0,a1]) 20 h) (RL Tryz.f87 K)=true):Sem TP 87 [a0,a1] h K:=
 SB Tryz.func87 hh
noncomputable def F.b8.L0:=partOf (aj Tryz.f99) [1,1,0,1,0,0]
noncomputable def F.b8.cB:=LK 0 Tryz.f99 [1,1,1]
theorem F.b8.aT:EV F.b8.L0 (sM e 63 h) J=(af (aC .lss (e 22) (e 21)) fun t=>let Q1:=(bZ e 23 t);ah t (af (iZ 3 (e 20) (e 22)) fun g=>af (au (some 3) g h) fun i=>af (bD 3 (nP h) i (hA h [(.str []),(I6 0),.aE])) fun u=>fl 0 (nP h) u fun v j=>aq TP 152 [j] u (bH (fun w a=>af (j4 .not w) fun k=>let Q2:=(sL Q1 [(24,e 22),(25,g),(26,i),(4,nP h),(3,e 22),(27,v),(28,j),(29,w),(30,k),(31,k)]);ah k (J .ret (sM (sL Q2 [(31,bT),(32,aZ),(31,bT),(33,aZ),(31,bT),(34,aZ),(35,bT),(36,bT),(36,bT),(37,aZ),(36,bT),(38,aZ),(36,bT),(39,aZ),(40,bT),(41,bT),(41,bT),(42,aZ),(41,bT),(43,aZ),(41,bT),(44,aZ),(41,bT),(45,aZ),(41,bT),(46,aZ),(41,bT),(47,aZ),(48,bT),(49,bT),(49,bT),(50,aZ),(49,bT),(51,aZ),(49,bT),(52,aZ),(49,bT),(53,aZ),(49,bT),(54,aZ),(55,bT),(2,bF)]) 63 a)) (fl 1 (nP h) a fun M x=>af (aC .lss x (I6 0)) fun b=>let Q3:=(sL Q2 [(31,bF),(32,M),(31,bF),(33,x),(31,bF),(34,b),(35,b),(36,b)]);ah b (J .ret (sM (sL Q3 [(36,bT),(37,aZ),(36,bT),(38,aZ),(36,bT),(39,aZ),(40,bT),(41,bT),(41,bT),(42,aZ),(41,bT),(43,aZ),(41,bT),(44,aZ),(41,bT),(45,aZ),(41,bT),(46,aZ),(41,bT),(47,aZ),(48,bT),(49,bT),(49,bT),(50,aZ),(49,bT),(51,aZ),(49,bT),(52,aZ),(49,bT),(53,aZ),(49,bT),(54,aZ),(55,bT),(2,bF)]) 63 a)) (fl 1 (nP h) a fun N y=>af (aC .gtr y (I6 12)) fun c=>let Q4:=(sL Q3 [(36,bF),(37,N),(36,bF),(38,y),(36,bF),(39,c),(40,c),(41,c)]);ah c (J .ret (sM (sL Q4 [(41,bT),(42,aZ),(41,bT),(43,aZ),(41,bT),(44,aZ),(41,bT),(45,aZ),(41,bT),(46,aZ),(41,bT),(47,aZ),(48,bT),(49,bT),(49,bT),(50,aZ),(49,bT),(51,aZ),(49,bT),(52,aZ),(49,bT),(53,aZ),(49,bT),(54,aZ),(55,bT),(2,bF)]) 63 a)) (fl 0 (e 1) a fun z l=>fl 1 (nP h) a fun A m=>aq TP 153 [l,m,(I6 4096)] a (bH (fun B d=>af (aC .lss B (I6 0)) fun f=>let Q5:=(sL Q4 [(41,bF),(42,z),(41,bF),(43,l),(41,bF),(44,A),(41,bF),(45,m),(41,bF),(46,B),(41,bF),(47,f),(48,f),(49,f)]);ah f (J .ret (sM (sL Q5 [(49,bT),(50,aZ),(49,bT),(51,aZ),(49,bT),(52,aZ),(49,bT),(53,aZ),(49,bT),(54,aZ),(55,bT),(2,bF)]) 63 d)) (fl 0 (e 1) d fun C n=>af (au (some 3) (nP h) d) fun o=>aq TP 154 [n,o] d (bH (fun D p=>af (j4 .not D) fun q=>let Q6:=(sL Q5 [(49,bF),(50,C),(49,bF),(51,n),(49,bF),(52,o),(49,bF),(53,D),(49,bF),(54,q),(55,q)]);ah q (J .ret (sM (bZ Q6 2 bF) 63 p)) (fl 1 (e 1) p fun E r=>af (eX (some 3) r none (some (e 22))) fun s=>aq TP 155 [s,(.func 156 [] [(nP h)])] p (bH (fun G I=>let Q7:=(sL Q6 [(56,E),(57,r),(58,e 22),(59,s),(60,.func 156 [] [(nP h)]),(61,G)]);ah G (J .ret (sM (bZ Q7 2 bF) 63 I)) (af (aC .add (e 22) (I6 1)) fun L=>J .normal (sM (sL Q7 [(62,L),(22,L)]) 63 I))) (pS J (sL Q6 [(56,E),(57,r),(58,e 22),(59,s),(60,.func 156 [] [(nP h)])]) 63)))) (pS J (sL Q5 [(49,bF),(50,C),(49,bF),(51,n),(49,bF),(52,o),(49,bF)]) 63)))) (pS J (sL Q4 [(41,bF),(42,z),(41,bF),(43,l),(41,bF),(44,A),(41,bF),(45,m),(41,bF)]) 63)))))) (pS J (sL Q1 [(24,e 22),(25,g),(26,i),(4,nP h),(3,e 22),(27,v),(28,j)]) 63))) (J (.exit 0) (sM Q1 63 h))):=by kernel_rfl
theorem F.b8.aF:F.b8.cB K (.exit 0) (sM e 63 h)=(K (.ret bT) h):=by kernel_rfl
theorem F.b8.bh:F.b8.cB K .ret (sM e 63 h)=(K (.ret (e 2)) h):=by kernel_rfl
theorem F.vH:EV (aj Tryz.f99) (sM (az [a0]) 63 h) (RL Tryz.f99 K)=(af (eR a0) fun a=>fl 0 (nP h) (hA h a) fun n j=>af (aC .lss j (I6 1)) fun f=>ah f (K (.ret bF) (hA h a)) (fl 0 (nP h) (hA h a) fun o k=>af (aC .gtr k (I6 64)) fun d=>ah d (K (.ret bF) (hA h a)) (fl 1 (nP h) (hA h a) fun p l=>af (bB .slice l (hA h a)) fun m=>af (aC .gtr m (I6 8)) fun b=>ah b (K (.ret bF) (hA h a)) (fl 1 (nP h) (hA h a) fun g c=>af (bB .slice c (hA h a)) fun i=>bS (EV F.b8.L0) (sM (sL (az [a0]) [(1,nP h),(2,bF),(5,n),(6,j),(7,f),(8,f),(8,bF),(9,o),(8,bF),(10,k),(8,bF),(11,d),(12,d),(13,d),(13,bF),(14,p),(13,bF),(15,l),(13,bF),(16,m),(13,bF),(17,b),(18,b),(19,g),(20,c),(21,i),(22,I6 0)]) 63 (hA h a)) (F.b8.cB K))))):=by kernel_rfl
theorem F.tq(hh:EV (aj Tryz.f99) (sM (az [a0]) 63 h) (RL Tryz.f99 K)=true):Sem TP 99 [a0] h K:=
 SB Tryz.func99 hh
theorem F.xj:EV (aj Tryz.f100) (sM (az [a0,a1,a2]) 11 h) (RL Tryz.f100 K)=(af (eR a0) fun a=>af (eR a1) fun b=>af (eR a2) fun c=>fl 1 (nP h) (hA (hA (hA h a) b) c) fun k d=>aq TP 157 [d,(.func 158 [] [(.ptr (Heap.next (hA h a)) 0),(.ptr (Heap.next (hA (hA h a) b)) 0)])] (hA (hA (hA h a) b) c) (bH (rK K) (pK K))):=by kernel_rfl
theorem F.vI(hh:EV (aj Tryz.f100) (sM (az [a0,a1,a2]) 11 h) (RL Tryz.f100 K)=true):Sem TP 100 [a0,a1,a2] h K:=
 SB Tryz.func100 hh
noncomputable def F.aM.L0:=partOf (aj Tryz.f102) [1,0,1,0,0]
noncomputable def F.aM.cB:=LK 0 Tryz.f102 [1,1]
theorem F.aM.aT:EV F.aM.L0 (sM e 36 h) J=(af (aC .lss (e 11) (e 10)) fun j=>let Q1:=(bZ e 12 j);ah j (il 1 (e 9) (e 11) h fun o c=>af (bB .slice (e 1) h) fun k=>af (aC .geq (e 11) k) fun l=>let Q2:=(sL Q1 [(13,e 11),(14,o),(15,c),(5,e 11),(6,c),(16,e 11),(17,e 1),(18,k),(19,l)]);ah l (J .ret (sM (bZ Q2 4 (I6 1)) 36 h)) (il 1 (e 1) (e 11) h fun m a=>aq TP 159 [c,a] h (bH (fun b n=>af (jN (.int .i64) b (I6 0)) fun d=>let Q3:=(sL Q2 [(20,e 1),(21,e 11),(22,m),(23,a),(7,a),(24,c),(25,a),(26,b),(8,b),(27,b),(28,d)]);ah d (J .ret (sM (sL Q3 [(29,b),(4,b)]) 36 n)) (af (aC .add (e 11) (I6 1)) fun f=>J .normal (sM (sL Q3 [(30,f),(11,f)]) 36 n))) (pS J (sL Q2 [(20,e 1),(21,e 11),(22,m),(23,a),(7,a),(24,c),(25,a)]) 36)))) (J (.exit 0) (sM Q1 36 h))):=by kernel_rfl
theorem F.aM.aF:F.aM.cB K (.exit 0) (sM e 36 h)=(af (bB .slice (e 0) h) fun a=>af (bB .slice (e 1) h) fun b=>af (aC .lss a b) fun c=>ah c (K (.ret (I6 (-1))) h) (K (.ret (I6 0)) h)):=by kernel_rfl
theorem F.aM.bh:F.aM.cB K .ret (sM e 36 h)=(K (.ret (e 4)) h):=by kernel_rfl
theorem F.fP:EV (aj Tryz.f102) (sM (az [a0,a1]) 36 h) (RL Tryz.f102 K)=(af (bB .slice a0 h) fun a=>bS (EV F.aM.L0) (sM (sL (az [a0,a1]) [(4,I6 0),(9,a0),(10,a),(11,I6 0)]) 36 h) (F.aM.cB K)):=by kernel_rfl
theorem F.fH(hh:EV (aj Tryz.f102) (sM (az [a0,a1]) 36 h) (RL Tryz.f102 K)=true):Sem TP 102 [a0,a1] h K:=
 SB Tryz.func102 hh
theorem F.qj:EV (aj Tryz.f103) (sM (az [a0,a1]) 9 h) (RL Tryz.f103 K)=(af (eR a0) fun a=>aq TP 112 [a1,(.func 160 [] [(nP h)])] (hA h a) (bH (fun b c=>af (j4 .not b) fun d=>K (.ret d) c) (pK K))):=by kernel_rfl
theorem F.oG(hh:EV (aj Tryz.f103) (sM (az [a0,a1]) 9 h) (RL Tryz.f103 K)=true):Sem TP 103 [a0,a1] h K:=
 SB Tryz.func103 hh
theorem F.vJ:EV (aj Tryz.f110) (sM (az [a0,a1]) 27 h) (RL Tryz.f110 K)=(af (aC .lss a0 (I6 1)) fun c=>ah c (K (.ret (.tuple [(I6 0),(I6 2)])) h) (af (aC .gtr a0 (I6 64)) fun d=>ah d (K (.ret (.tuple [(I6 0),(I6 2)])) h) (af (aC .lss a1 (I6 0)) fun f=>ah f (K (.ret (.tuple [(I6 0),(I6 2)])) h) (af (aC .gtr a1 (I6 12)) fun g=>ah g (K (.ret (.tuple [(I6 0),(I6 2)])) h) (aq TP 153 [a0,a1,(I6 4096)] h (bH (fun a b=>af (aC .lss a (I6 0)) fun i=>ah i (K (.ret (.tuple [(I6 0),(I6 5)])) b) (K (.ret (.tuple [a,(I6 0)])) b)) (pK K))))))):=by kernel_rfl
theorem F.tr(hh:EV (aj Tryz.f110) (sM (az [a0,a1]) 27 h) (RL Tryz.f110 K)=true):Sem TP 110 [a0,a1] h K:=
 SB Tryz.func110 hh
noncomputable def F.dA.L0:=partOf (aj Tryz.f111) [1,1,1,1,0,1,0,0]
noncomputable def F.dA.cB:=LK 0 Tryz.f111 [1,1,1,1,1]
theorem F.dA.aT:EV F.dA.L0 (sM e 38 h) J=(af (aC .lss (e 27) (e 26)) fun b=>ah b (il 1 (e 25) (e 27) h fun g a=>af (aC .mul (e 8) (e 0)) fun c=>af (aC .add c a) fun d=>af (aC .add (e 27) (I6 1)) fun f=>J .normal (sM (sL e [(28,b),(29,g),(30,a),(10,a),(31,e 8),(32,e 0),(33,c),(34,a),(35,d),(8,d),(36,f),(27,f)]) 38 h)) (J (.exit 0) (sM (bZ e 28 b) 38 h))):=by kernel_rfl
theorem F.dA.aF:F.dA.cB K (.exit 0) (sM e 38 h)=(K (.ret (.tuple [(e 8),(I6 0)])) h):=by kernel_rfl
theorem F.xk:EV (aj Tryz.f111) (sM (az [a0,a1]) 38 h) (RL Tryz.f111 K)=(af (bB .slice a1 h) fun j=>aq TP 110 [a0,j] h (bH (fun c k=>af (aW c 0) fun l=>af (aW c 1) fun a=>af (jN (.int .i64) a (I6 0)) fun m=>ah m (K (.ret (.tuple [(I6 0),a])) k) (aq TP 103 [a0,a1] k (bH (fun n d=>af (j4 .not n) fun b=>ah b (K (.ret (.tuple [(I6 0),(I6 2)])) d) (af (bB .slice a1 d) fun f=>bS (EV F.dA.L0) (sM (sL (az [a0,a1]) [(4,I6 0),(5,I6 0),(12,a0),(13,a1),(14,j),(15,c),(11,c),(16,l),(17,a),(6,l),(7,a),(18,a),(19,m),(21,a0),(22,a1),(23,n),(24,b),(8,I6 0),(25,a1),(26,f),(27,I6 0)]) 38 d) (F.dA.cB K))) (pK K)))) (pK K))):=by kernel_rfl
theorem F.vK(hh:EV (aj Tryz.f111) (sM (az [a0,a1]) 38 h) (RL Tryz.f111 K)=true):Sem TP 111 [a0,a1] h K:=
 SB Tryz.func111 hh
theorem F.rG:EV (aj Tryz.f113) (sM (az [a0,a1,a2]) 13 h) (RL Tryz.f113 K)=(af (au none a1 h) fun a=>il 1 a a0 h fun g b=>fl 0 a2 h fun i c=>af (fQ (.int .i64) c (I6 4)) fun d=>af (fQ .bool b d) fun f=>K (.ret f) h):=by kernel_rfl
theorem F.ql(hh:EV (aj Tryz.f113) (sM (az [a0,a1,a2]) 13 h) (RL Tryz.f113 K)=true):Sem TP 113 [a0,a1,a2] h K:=
 SB Tryz.func113 hh
noncomputable def F.c9.L0:=partOf (aj Tryz.f114) [1,1,0,1,0,0]
noncomputable def F.c9.cB:=LK 0 Tryz.f114 [1,1,1]
theorem F.c9.aT:EV F.c9.L0 (sM e 72 h) J=(fl 2 (e 3) h fun A g=>af (bB .slice g h) fun i=>af (aC .lss (e 5) i) fun j=>let Q1:=(sL e [(27,e 5),(28,A),(29,g),(30,i),(31,j)]);ah j (fl 2 (e 3) h fun B k=>il 1 k (e 5) h fun C l=>af (bB .slice l h) fun m=>fl 1 (e 3) h fun D n=>af (jN (.int .i64) m n) fun d=>let Q2:=(sL Q1 [(34,B),(35,k),(36,e 5),(37,C),(38,l),(39,m),(40,D),(41,n),(42,d),(43,d)]);ah d (J .ret (sM (sL Q2 [(43,bT),(44,aZ),(43,bT),(45,aZ),(43,bT),(46,aZ),(43,bT),(47,aZ),(43,bT),(48,aZ),(43,bT),(49,aZ),(43,bT),(50,aZ),(43,bT),(51,aZ),(52,bT),(53,bT),(53,bT),(54,aZ),(53,bT),(55,aZ),(53,bT),(56,aZ),(57,aZ),(58,aZ),(59,aZ),(60,aZ),(61,aZ),(62,aZ),(63,aZ),(64,aZ),(65,aZ),(66,aZ),(67,aZ),(68,aZ),(69,aZ),(53,bT),(70,aZ),(71,bT),(4,bF)]) 72 h)) (fl 2 (e 3) h fun E o=>il 1 o (e 5) h fun G p=>aq TP 108 [(e 0),p] h (bH (fun q a=>af (j4 .not q) fun b=>let Q3:=(sL Q2 [(43,bF),(44,e 0),(43,bF),(45,E),(43,bF),(46,o),(43,bF),(47,e 5),(43,bF),(48,G),(43,bF),(49,p),(43,bF),(50,q),(43,bF),(51,b),(52,b),(53,b)]);ah b (J .ret (sM (sL Q3 [(53,bT),(54,aZ),(53,bT),(55,aZ),(53,bT),(56,aZ),(57,aZ),(58,aZ),(59,aZ),(60,aZ),(61,aZ),(62,aZ),(63,aZ),(64,aZ),(65,aZ),(66,aZ),(67,aZ),(68,aZ),(69,aZ),(53,bT),(70,aZ),(71,bT),(4,bF)]) 72 a)) (af (aC .gtr (e 5) (I6 0)) fun f=>let Q4:=(sL Q3 [(53,bF),(54,e 5),(53,bF),(55,f),(53,bF),(56,f)]);ah f (fl 2 (e 3) a fun I r=>af (aC .sub (e 5) (I6 1)) fun s=>il 1 r s a fun L t=>fl 2 (e 3) a fun M u=>il 1 u (e 5) a fun N v=>aq TP 145 [t,v] a (bH (fun w x=>af (j4 .not w) fun c=>let Q5:=(sL Q4 [(56,bT),(57,I),(56,bT),(58,r),(56,bT),(59,e 5),(56,bT),(60,s),(56,bT),(61,L),(56,bT),(62,t),(56,bT),(63,M),(56,bT),(64,u),(56,bT),(65,e 5),(56,bT),(66,N),(56,bT),(67,v),(56,bT),(68,w),(56,bT),(69,c),(53,bF),(70,c),(71,c)]);ah c (J .ret (sM (bZ Q5 4 bF) 72 x)) (af (aC .add (e 5) (I6 1)) fun y=>J .normal (sM (sL Q5 [(32,e 5),(33,y),(5,y)]) 72 x))) fF)) (af (aC .add (e 5) (I6 1)) fun z=>J .normal (sM (sL Q4 [(56,bF),(57,aZ),(56,bF),(58,aZ),(56,bF),(59,aZ),(56,bF),(60,aZ),(56,bF),(61,aZ),(56,bF),(62,aZ),(56,bF),(63,aZ),(56,bF),(64,aZ),(56,bF),(65,aZ),(56,bF),(66,aZ),(56,bF),(67,aZ),(56,bF),(68,aZ),(56,bF),(69,aZ),(53,bF),(70,bF),(71,bF),(32,e 5),(33,z),(5,z)]) 72 a)))) fF))) (J (.exit 0) (sM Q1 72 h))):=by kernel_rfl
theorem F.c9.aF:F.c9.cB K (.exit 0) (sM e 72 h)=(K (.ret bT) h):=by kernel_rfl
theorem F.c9.bh:F.c9.cB K .ret (sM e 72 h)=(K (.ret (e 4)) h):=by kernel_rfl
theorem F.zu:EV (aj Tryz.f114) (sM (az [a0,a1]) 72 h) (RL Tryz.f114 K)=(af (eR a1) fun p=>fl 0 (nP h) (hA h p) fun t q=>aq TP 107 [q] (hA h p) (bH (fun r c=>af (j4 .not r) fun k=>ah k (K (.ret bF) c) (fl 1 (nP h) c fun u s=>af (aC .lss s (I6 0)) fun a=>ah a (K (.ret bF) c) (fl 1 (nP h) c fun l f=>af (aC .gtr f (I6 12)) fun b=>ah b (K (.ret bF) c) (fl 1 (nP h) c fun m g=>aq TP 87 [a0,g] c (bH (fun i j=>af (aC .gtr i (I6 4096)) fun d=>ah d (K (.ret bF) j) (bS (EV F.c9.L0) (sM (sL (az [a0,a1]) [(3,nP h),(4,bF),(6,t),(7,q),(8,r),(9,k),(10,k),(10,bF),(11,u),(10,bF),(12,s),(10,bF),(13,a),(14,a),(15,a),(15,bF),(16,l),(15,bF),(17,f),(15,bF),(18,b),(19,b),(20,b),(20,bF),(21,a0),(20,bF),(22,m),(20,bF),(23,g),(20,bF),(24,i),(20,bF),(25,d),(26,d),(5,I6 0)]) 72 j) (F.c9.cB K))) (pK K)))))) (pK K))):=by kernel_rfl
theorem F.xm(hh:EV (aj Tryz.f114) (sM (az [a0,a1]) 72 h) (RL Tryz.f114 K)=true):Sem TP 114 [a0,a1] h K:=
 SB Tryz.func114 hh
noncomputable def F.cy.L0:=partOf (aj Tryz.f119) [1,0,1,0,0]
noncomputable def F.cy.cB:=LK 0 Tryz.f119 [1,1]
theorem F.cy.aT:EV F.cy.L0 (sM e 18 h) J=(af (bB .slice (e 0) h) fun a=>af (aC .lss (e 5) a) fun b=>let Q1:=(sL e [(6,e 5),(7,e 0),(8,a),(9,b)]);ah b (il 1 (e 0) (e 5) h fun g c=>af (fQ .string c (e 1)) fun d=>let Q2:=(sL Q1 [(12,e 0),(13,e 5),(14,g),(15,c),(16,e 1),(17,d)]);ah d (J .ret (sM (bZ Q2 4 bT) 18 h)) (af (aC .add (e 5) (I6 1)) fun f=>J .normal (sM (sL Q2 [(10,e 5),(11,f),(5,f)]) 18 h))) (J (.exit 0) (sM Q1 18 h))):=by kernel_rfl
theorem F.cy.aF:F.cy.cB K (.exit 0) (sM e 18 h)=(K (.ret bF) h):=by kernel_rfl
theorem F.cy.bh:F.cy.cB K .ret (sM e 18 h)=(K (.ret (e 4)) h):=by kernel_rfl
theorem F.vL:EV (aj Tryz.f119) (sM (az [a0,a1]) 18 h) (RL Tryz.f119 K)=(bS (EV F.cy.L0) (sM (sL (az [a0,a1]) [(4,bF),(5,I6 0)]) 18 h) (F.cy.cB K)):=by kernel_rfl
theorem F.tu(hh:EV (aj Tryz.f119) (sM (az [a0,a1]) 18 h) (RL Tryz.f119 K)=true):Sem TP 119 [a0,a1] h K:=
 SB Tryz.func119 hh
noncomputable def F.cA.L0:=partOf (aj Tryz.f137) [1,1,0,1,0,0]
noncomputable def F.cA.cB:=LK 0 Tryz.f137 [1,1,1]
theorem F.cA.aT:EV F.cA.L0 (sM e 20 h) J=(af (bB .slice (e 0) h) fun f=>af (aC .lss (e 4) f) fun g=>let Q1:=(sL e [(5,e 4),(6,e 0),(7,f),(8,g)]);ah g (af (iZ 3 (e 0) (e 4)) fun b=>af (sV 0 b) fun c=>fl 0 c h fun i d=>aq TP 139 [(e 3),d] h (bH (fun j k=>af (aC .add (e 4) (I6 1)) fun a=>J .normal (sM (sL Q1 [(11,e 3),(12,e 0),(13,e 4),(14,b),(15,c),(16,i),(17,d),(18,j),(3,j),(9,e 4),(10,a),(4,a)]) 20 k)) (pS J (sL Q1 [(11,e 3),(12,e 0),(13,e 4),(14,b),(15,c),(16,i),(17,d)]) 20))) (J (.exit 0) (sM Q1 20 h))):=by kernel_rfl
theorem F.cA.aF:F.cA.cB K (.exit 0) (sM e 20 h)=(K (.ret (e 3)) h):=by kernel_rfl
theorem F.rH:EV (aj Tryz.f137) (sM (az [a0]) 20 h) (RL Tryz.f137 K)=(bS (EV F.cA.L0) (sM (sL (az [a0]) [(2,.aE),(3,.aE),(4,I6 0)]) 20 h) (F.cA.cB K)):=by kernel_rfl
theorem F.qm(hh:EV (aj Tryz.f137) (sM (az [a0]) 20 h) (RL Tryz.f137 K)=true):Sem TP 137 [a0] h K:=
 SB Tryz.func137 hh
noncomputable def F.bE.L0:=partOf (aj Tryz.f138) [1,1,0,1,0,0]
noncomputable def F.bE.cB:=LK 0 Tryz.f138 [1,1,1]
noncomputable def F.bE.L1:=partOf (aj Tryz.f138) [1,1,0,1,0,0,1,0,0,1,1,0,0]
noncomputable def F.bE.oW(J:AX->St->Bool):=(ej 2 (ej 1 (ox false (EV (partOf (aj Tryz.f138) [1,1,0,1,0,0,1,1])) J)))
theorem F.bE.aT:EV F.bE.L0 (sM e 63 h) J=(af (bB .slice (e 0) h) fun g=>af (aC .lss (e 4) g) fun i=>let Q1:=(sL e [(7,e 4),(8,e 0),(9,g),(10,i)]);ah i (af (iZ 3 (e 0) (e 4)) fun j=>af (sV 0 j) fun k=>fl 0 k h fun p l=>af (iZ 3 (e 0) (e 4)) fun m=>af (sV 0 m) fun n=>fl 1 n h fun q o=>af (bB .slice o h) fun a=>af (ko [(.str []),(I6 0)] [(0,1),(1,1)] [l,a]) fun b=>af (eY [(.str []),(I6 0)] [(0,2)] [b]) fun d=>cT (bP 2 24 (e 3) (.slice (Heap.next h) 0 1 2) (hA h d)) fun c f=>bS (EV F.bE.L1) (sM (sL Q1 [(13,e 3),(14,e 0),(15,e 4),(16,j),(17,k),(18,p),(19,l),(20,e 0),(21,e 4),(22,m),(23,n),(24,q),(25,o),(26,a),(27,b),(28,.slice (Heap.next h) 0 1 2),(29,c),(3,c),(5,I6 0)]) 63 f) (F.bE.oW J)) (J (.exit 0) (sM Q1 63 h))):=by kernel_rfl
theorem F.bE.aF:F.bE.cB K (.exit 0) (sM e 63 h)=(K (.ret (e 3)) h):=by kernel_rfl
theorem F.bE.ff:EV F.bE.L1 (sM e 63 h) J=(lP 3 (e 0) (e 4) 2 h fun u v b=>af (bB .slice b h) fun c=>af (aC .lss (e 5) c) fun d=>let Q1:=(sL e [(30,e 5),(31,e 0),(32,e 4),(33,u),(34,v),(35,b),(36,c),(37,d)]);ah d (lP 3 (e 0) (e 4) 2 h fun w x f=>af (iZ 4 f (e 5)) fun g=>af (au (some 4) g h) fun i=>af (bD 4 (nP h) i (hA h [(I6 0),bF,(.str []),.aE])) fun a=>fl 0 (nP h) a fun y j=>af (fQ (.int .i64) j (I6 0)) fun k=>let Q2:=(sL Q1 [(40,e 0),(41,e 4),(42,w),(43,x),(44,f),(45,e 5),(46,g),(47,i),(6,nP h),(48,y),(49,j),(50,k)]);ah k (af (sV 2 (nP h)) fun l=>fl 0 l a fun z m=>af (sV 2 (nP h)) fun n=>fl 1 n a fun A o=>af (bB .slice o a) fun p=>af (ko [(.str []),(I6 0)] [(0,1),(1,1)] [m,p]) fun q=>af (eY [(.str []),(I6 0)] [(0,2)] [q]) fun B=>cT (bP 2 24 (e 3) (.slice (Heap.next a) 0 1 2) (hA a B)) fun r C=>af (aC .add (e 5) (I6 1)) fun s=>J .normal (sM (sL Q2 [(51,e 3),(52,l),(53,z),(54,m),(55,n),(56,A),(57,o),(58,p),(59,q),(60,.slice (Heap.next a) 0 1 2),(61,r),(3,r),(38,e 5),(39,s),(5,s)]) 63 C)) (af (aC .add (e 5) (I6 1)) fun t=>J .normal (sM (sL Q2 [(38,e 5),(39,t),(5,t)]) 63 a))) (J (.exit 2) (sM Q1 63 h))):=by kernel_rfl
theorem F.bE.dL:F.bE.oW J (.exit 2) (sM e 63 h)=(af (aC .add (e 4) (I6 1)) fun a=>J .normal (sM (sL e [(11,e 4),(12,a),(4,a)]) 63 h)):=by kernel_rfl
theorem F.vM:EV (aj Tryz.f138) (sM (az [a0]) 63 h) (RL Tryz.f138 K)=(bS (EV F.bE.L0) (sM (sL (az [a0]) [(2,.aE),(3,.aE),(4,I6 0)]) 63 h) (F.bE.cB K)):=by kernel_rfl
theorem F.tw(hh:EV (aj Tryz.f138) (sM (az [a0]) 63 h) (RL Tryz.f138 K)=true):Sem TP 138 [a0] h K:=
 SB Tryz.func138 hh
noncomputable def F.cr.L0:=partOf (aj Tryz.f139) [1,1,0,0,0]
noncomputable def F.cr.cB:=LK 0 Tryz.f139 [1,1,1]
theorem F.cr.aT:EV F.cr.L0 (sM e 45 h) J=(af (bB .slice (e 0) h) fun c=>af (aC .lss (e 5) c) fun a=>let Q1:=(sL e [(6,e 5),(7,e 0),(8,c),(9,a),(10,a)]);ah a (il 1 (e 0) (e 5) h fun g d=>af (aC .lss d (e 1)) fun b=>let Q2:=(sL Q1 [(10,bT),(11,e 0),(10,bT),(12,e 5),(10,bT),(13,g),(10,bT),(14,d),(10,bT),(15,e 1),(10,bT),(16,b),(17,b)]);ah b (af (aC .add (e 5) (I6 1)) fun f=>J .normal (sM (sL Q2 [(18,e 5),(19,f),(5,f)]) 45 h)) (J (.exit 0) (sM Q2 45 h))) (J (.exit 0) (sM (sL Q1 [(10,bF),(11,aZ),(10,bF),(12,aZ),(10,bF),(13,aZ),(10,bF),(14,aZ),(10,bF),(15,aZ),(10,bF),(16,aZ),(17,bF)]) 45 h))):=by kernel_rfl
theorem F.cr.aF:F.cr.cB K (.exit 0) (sM e 45 h)=(af (bB .slice (e 0) h) fun x=>af (aC .lss (e 5) x) fun y=>ah y (il 1 (e 0) (e 5) h fun A z=>af (fQ .string z (e 1)) fun c=>ah c (K (.ret (e 0)) h) (af (eY [] [] []) fun a=>af (eX (some 1) (e 0) none (some (e 5))) fun d=>af (eY [(.str [])] [(0,1)] [(e 1)]) fun f=>af (eX (some 1) (e 0) (some (e 5)) none) fun g=>cT (bP 1 16 (.slice (Heap.next h) 0 0 1) d (hA (hA h a) f)) fun i j=>cT (bP 1 16 i (.slice (Heap.next (hA h a)) 0 1 1) j) fun k l=>cT (bP 1 16 k g l) fun m n=>K (.ret m) n)) (af (eY [] [] []) fun b=>af (eX (some 1) (e 0) none (some (e 5))) fun o=>af (eY [(.str [])] [(0,1)] [(e 1)]) fun p=>af (eX (some 1) (e 0) (some (e 5)) none) fun q=>cT (bP 1 16 (.slice (Heap.next h) 0 0 1) o (hA (hA h b) p)) fun r s=>cT (bP 1 16 r (.slice (Heap.next (hA h b)) 0 1 1) s) fun t u=>cT (bP 1 16 t q u) fun v w=>K (.ret v) w)):=by kernel_rfl
theorem F.tC:EV (aj Tryz.f139) (sM (az [a0,a1]) 45 h) (RL Tryz.f139 K)=(bS (EV F.cr.L0) (sM (sL (az [a0,a1]) [(4,.aE),(5,I6 0)]) 45 h) (F.cr.cB K)):=by kernel_rfl
theorem F.rI(hh:EV (aj Tryz.f139) (sM (az [a0,a1]) 45 h) (RL Tryz.f139 K)=true):Sem TP 139 [a0,a1] h K:=
 SB Tryz.func139 hh
noncomputable def F.cz.L0:=partOf (aj Tryz.f140) [1,1,0,1,0,0]
noncomputable def F.cz.cB:=LK 0 Tryz.f140 [1,1,1]
theorem F.cz.aT:EV F.cz.L0 (sM e 27 h) J=(af (bB .slice (e 5) h) fun f=>af (aC .lss (e 6) f) fun g=>let Q1:=(sL e [(9,e 6),(10,e 5),(11,f),(12,g)]);ah g (lP 2 (e 5) (e 6) 0 h fun k l i=>af (fQ .string i (e 1)) fun j=>let Q2:=(sL Q1 [(15,e 5),(16,e 6),(17,k),(18,l),(19,i),(20,e 1),(21,j)]);ah j (lP 2 (e 5) (e 6) 1 h fun c d a=>J .ret (sM (sL Q2 [(22,e 5),(23,e 6),(24,c),(25,d),(26,a),(4,a)]) 27 h)) (af (aC .add (e 6) (I6 1)) fun b=>J .normal (sM (sL Q2 [(13,e 6),(14,b),(6,b)]) 27 h))) (J (.exit 0) (sM Q1 27 h))):=by kernel_rfl
theorem F.cz.aF:F.cz.cB K (.exit 0) (sM e 27 h)=(K (.ret (I6 (-1))) h):=by kernel_rfl
theorem F.cz.bh:F.cz.cB K .ret (sM e 27 h)=(K (.ret (e 4)) h):=by kernel_rfl
theorem F.vN:EV (aj Tryz.f140) (sM (az [a0,a1]) 27 h) (RL Tryz.f140 K)=(aq TP 138 [a0] h (bH (fun a b=>bS (EV F.cz.L0) (sM (sL (az [a0,a1]) [(4,I6 0),(7,a0),(8,a),(5,a),(6,I6 0)]) 27 b) (F.cz.cB K)) (pK K))):=by kernel_rfl
theorem F.tD(hh:EV (aj Tryz.f140) (sM (az [a0,a1]) 27 h) (RL Tryz.f140 K)=true):Sem TP 140 [a0,a1] h K:=
 SB Tryz.func140 hh
noncomputable def F.cW.L0:=partOf (aj Tryz.f145) [1,0,1,0,0]
noncomputable def F.cW.cB:=LK 0 Tryz.f145 [1,1]
theorem F.cW.aT:EV F.cW.L0 (sM e 30 h) J=(af (bB .slice (e 0) h) fun d=>af (aC .lss (e 5) d) fun f=>let Q1:=(sL e [(6,e 5),(7,e 0),(8,d),(9,f)]);ah f (il 1 (e 0) (e 5) h fun l g=>il 1 (e 1) (e 5) h fun m i=>af (jN (.int .i64) g i) fun j=>let Q2:=(sL Q1 [(12,e 0),(13,e 5),(14,l),(15,g),(16,e 1),(17,e 5),(18,m),(19,i),(20,j)]);ah j (il 1 (e 0) (e 5) h fun n k=>il 1 (e 1) (e 5) h fun o a=>af (aC .lss k a) fun b=>J .ret (sM (sL Q2 [(21,e 0),(22,e 5),(23,n),(24,k),(25,e 1),(26,e 5),(27,o),(28,a),(29,b),(4,b)]) 30 h)) (af (aC .add (e 5) (I6 1)) fun c=>J .normal (sM (sL Q2 [(10,e 5),(11,c),(5,c)]) 30 h))) (J (.exit 0) (sM Q1 30 h))):=by kernel_rfl
theorem F.cW.aF:F.cW.cB K (.exit 0) (sM e 30 h)=(K (.ret bF) h):=by kernel_rfl
theorem F.cW.bh:F.cW.cB K .ret (sM e 30 h)=(K (.ret (e 4)) h):=by kernel_rfl
theorem F.xo:EV (aj Tryz.f145) (sM (az [a0,a1]) 30 h) (RL Tryz.f145 K)=(bS (EV F.cW.L0) (sM (sL (az [a0,a1]) [(4,bF),(5,I6 0)]) 30 h) (F.cW.cB K)):=by kernel_rfl
theorem F.vO(hh:EV (aj Tryz.f145) (sM (az [a0,a1]) 30 h) (RL Tryz.f145 K)=true):Sem TP 145 [a0,a1] h K:=
 SB Tryz.func145 hh
noncomputable def F.cn.L0:=partOf (aj Tryz.f153) [1,1,0,1,0,0]
noncomputable def F.cn.cB:=LK 0 Tryz.f153 [1,1,1]
theorem F.cn.aT:EV F.cn.L0 (sM e 19 h) J=(af (aC .lss (e 9) (e 8)) fun b=>ah b (af (aC .mul (e 7) (e 0)) fun a=>af (aC .gtr a (e 2)) fun c=>let Q1:=(sL e [(10,b),(11,e 7),(12,e 0),(13,a),(7,a),(14,a),(15,e 2),(16,c)]);ah c (J .ret (sM (bZ Q1 6 (I6 (-1))) 19 h)) (af (aC .add (e 9) (I6 1)) fun d=>J .normal (sM (sL Q1 [(17,d),(9,d)]) 19 h))) (J (.exit 0) (sM (bZ e 10 b) 19 h))):=by kernel_rfl
theorem F.cn.aF:F.cn.cB K (.exit 0) (sM e 19 h)=(K (.ret (e 7)) h):=by kernel_rfl
theorem F.cn.bh:F.cn.cB K .ret (sM e 19 h)=(K (.ret (e 6)) h):=by kernel_rfl
theorem F.vP:EV (aj Tryz.f153) (sM (az [a0,a1,a2]) 19 h) (RL Tryz.f153 K)=(bS (EV F.cn.L0) (sM (sL (az [a0,a1,a2]) [(6,I6 0),(7,I6 1),(8,a1),(9,I6 0)]) 19 h) (F.cn.cB K)):=by kernel_rfl
theorem F.tE(hh:EV (aj Tryz.f153) (sM (az [a0,a1,a2]) 19 h) (RL Tryz.f153 K)=true):Sem TP 153 [a0,a1,a2] h K:=
 SB Tryz.func153 hh
noncomputable def F.bK.L0:=partOf (aj Tryz.f154) [1,0,1,0,0]
noncomputable def F.bK.cB:=LK 0 Tryz.f154 [1,1]
theorem F.bK.aT:EV F.bK.L0 (sM e 42 h) J=(af (aC .lss (e 10) (e 9)) fun w=>let Q1:=(bZ e 11 w);ah w (il 1 (e 8) (e 10) h fun z b=>af (bB .slice b h) fun x=>fl 1 (e 3) h fun A y=>af (jN (.int .i64) x y) fun f=>let Q2:=(sL Q1 [(12,e 10),(13,z),(14,b),(5,e 10),(6,b),(15,b),(16,x),(17,A),(18,y),(19,f),(20,f)]);ah f (J .ret (sM (sL Q2 [(20,bT),(21,aZ),(20,bT),(22,aZ),(20,bT),(23,aZ),(20,bT),(24,aZ),(25,bT),(26,bT),(26,bT),(27,aZ),(26,bT),(28,aZ),(26,bT),(29,aZ),(30,aZ),(31,aZ),(32,aZ),(33,aZ),(34,aZ),(35,aZ),(36,aZ),(37,aZ),(38,aZ),(26,bT),(39,aZ),(40,bT),(4,bF)]) 42 h)) (aq TP 103 [(e 0),b] h (bH (fun l a=>af (j4 .not l) fun c=>let Q3:=(sL Q2 [(20,bF),(21,e 0),(20,bF),(22,b),(20,bF),(23,l),(20,bF),(24,c),(25,c),(26,c)]);ah c (J .ret (sM (sL Q3 [(26,bT),(27,aZ),(26,bT),(28,aZ),(26,bT),(29,aZ),(30,aZ),(31,aZ),(32,aZ),(33,aZ),(34,aZ),(35,aZ),(36,aZ),(37,aZ),(38,aZ),(26,bT),(39,aZ),(40,bT),(4,bF)]) 42 a)) (af (aC .gtr (e 10) (I6 0)) fun g=>let Q4:=(sL Q3 [(26,bF),(27,e 10),(26,bF),(28,g),(26,bF),(29,g)]);ah g (fl 2 (e 3) a fun m i=>af (aC .sub (e 10) (I6 1)) fun j=>il 1 i j a fun n k=>aq TP 102 [k,b] a (bH (fun o p=>af (aC .geq o (I6 0)) fun d=>let Q5:=(sL Q4 [(29,bT),(30,m),(29,bT),(31,i),(29,bT),(32,e 10),(29,bT),(33,j),(29,bT),(34,n),(29,bT),(35,k),(29,bT),(36,b),(29,bT),(37,o),(29,bT),(38,d),(26,bF),(39,d),(40,d)]);ah d (J .ret (sM (bZ Q5 4 bF) 42 p)) (af (aC .add (e 10) (I6 1)) fun q=>J .normal (sM (sL Q5 [(41,q),(10,q)]) 42 p))) (pS J (sL Q4 [(29,bT),(30,m),(29,bT),(31,i),(29,bT),(32,e 10),(29,bT),(33,j),(29,bT),(34,n),(29,bT),(35,k),(29,bT),(36,b),(29,bT)]) 42))) (af (aC .add (e 10) (I6 1)) fun r=>J .normal (sM (sL Q4 [(29,bF),(30,aZ),(29,bF),(31,aZ),(29,bF),(32,aZ),(29,bF),(33,aZ),(29,bF),(34,aZ),(29,bF),(35,aZ),(29,bF),(36,aZ),(29,bF),(37,aZ),(29,bF),(38,aZ),(26,bF),(39,bF),(40,bF),(41,r),(10,r)]) 42 a)))) (pS J (sL Q2 [(20,bF),(21,e 0),(20,bF),(22,b),(20,bF)]) 42)))) (J (.exit 0) (sM Q1 42 h))):=by kernel_rfl
theorem F.bK.aF:F.bK.cB K (.exit 0) (sM e 42 h)=(K (.ret bT) h):=by kernel_rfl
theorem F.bK.bh:F.bK.cB K .ret (sM e 42 h)=(K (.ret (e 4)) h):=by kernel_rfl
theorem F.tF:EV (aj Tryz.f154) (sM (az [a0,a1]) 42 h) (RL Tryz.f154 K)=(af (eR a1) fun a=>fl 2 (nP h) (hA h a) fun c b=>af (bB .slice b (hA h a)) fun d=>bS (EV F.bK.L0) (sM (sL (az [a0,a1]) [(3,nP h),(4,bF),(7,c),(8,b),(9,d),(10,I6 0)]) 42 (hA h a)) (F.bK.cB K)):=by kernel_rfl
theorem F.rJ(hh:EV (aj Tryz.f154) (sM (az [a0,a1]) 42 h) (RL Tryz.f154 K)=true):Sem TP 154 [a0,a1] h K:=
 SB Tryz.func154 hh
theorem F.fN:EV (aj Tryz.f155) (sM (az [a0,a1]) 9 h) (RL Tryz.f155 K)=(aq TP 157 [a0,a1] h (bH (fun a b=>af (aC .geq a (I6 0)) fun c=>K (.ret c) b) (pK K))):=by kernel_rfl
theorem F.fI(hh:EV (aj Tryz.f155) (sM (az [a0,a1]) 9 h) (RL Tryz.f155 K)=true):Sem TP 155 [a0,a1] h K:=
 SB Tryz.func155 hh
theorem F.rL:EV (aj Tryz.f156) (sM (az [a0,a1]) 9 h) (RL Tryz.f156 K)=(af (eR a0) fun a=>fl 0 (nP h) (hA h a) fun f b=>fl 0 a1 (hA h a) fun g c=>af (fQ .string b c) fun d=>K (.ret d) (hA h a)):=by kernel_rfl
theorem F.qo(hh:EV (aj Tryz.f156) (sM (az [a0,a1]) 9 h) (RL Tryz.f156 K)=true):Sem TP 156 [a0,a1] h K:=
 SB Tryz.func156 hh
noncomputable def F.aH.L0:=partOf (aj Tryz.f157) [1,0,1,0,0]
noncomputable def F.aH.cB:=LK 0 Tryz.f157 [1,1]
theorem F.aH.aT:EV F.aH.L0 (sM e 19 h) J=(af (aC .lss (e 8) (e 7)) fun c=>let Q1:=(bZ e 9 c);ah c (af (iZ 3 (e 0) (e 8)) fun a=>af (au (some 3) a h) fun b=>Ay (e 1) fun f9 NB NC=>aq TP f9 (NB++([b]++NC)) h (bH (fun d f=>let Q2:=(sL Q1 [(10,e 8),(5,e 8),(11,e 1),(12,e 0),(13,e 8),(14,a),(15,b),(16,d)]);ah d (J .ret (sM (sL Q2 [(17,e 8),(4,e 8)]) 19 f)) (af (aC .add (e 8) (I6 1)) fun g=>J .normal (sM (sL Q2 [(18,g),(8,g)]) 19 f))) (pS J (sL Q1 [(10,e 8),(5,e 8),(11,e 1),(12,e 0),(13,e 8),(14,a),(15,b)]) 19))) (J (.exit 0) (sM Q1 19 h))):=by kernel_rfl
theorem F.aH.aF:F.aH.cB K (.exit 0) (sM e 19 h)=(K (.ret (I6 (-1))) h):=by kernel_rfl
theorem F.aH.bh:F.aH.cB K .ret (sM e 19 h)=(K (.ret (e 4)) h):=by kernel_rfl
theorem F.gu:EV (aj Tryz.f157) (sM (az [a0,a1]) 19 h) (RL Tryz.f157 K)=(af (bB .slice a0 h) fun a=>bS (EV F.aH.L0) (sM (sL (az [a0,a1]) [(4,I6 0),(6,a0),(7,a),(8,I6 0)]) 19 h) (F.aH.cB K)):=by kernel_rfl
theorem F.gd(hh:EV (aj Tryz.f157) (sM (az [a0,a1]) 19 h) (RL Tryz.f157 K)=true):Sem TP 157 [a0,a1] h K:=
 SB Tryz.func157 hh
theorem F.tG:EV (aj Tryz.f158) (sM (az [a0,a1,a2]) 15 h) (RL Tryz.f158 K)=(af (eR a0) fun a=>fl 0 (nP h) (hA h a) fun j b=>af (au none a1 (hA h a)) fun c=>af (fQ .string b c) fun d=>ah d (fl 1 (nP h) (hA h a) fun k f=>af (au none a2 (hA h a)) fun g=>af (fQ (.int .i64) f g) fun i=>K (.ret i) (hA h a)) (K (.ret bF) (hA h a))):=by kernel_rfl
theorem F.rM(hh:EV (aj Tryz.f158) (sM (az [a0,a1,a2]) 15 h) (RL Tryz.f158 K)=true):Sem TP 158 [a0,a1,a2] h K:=
 SB Tryz.func158 hh
theorem F.oI:EV (aj Tryz.f159) (sM (az [a0,a1]) 20 h) (RL Tryz.f159 K)=(aq TP 194 [a0] h (bH (fun c d=>aq TP 194 [a1] d (bH (fun b a=>ah c (ah b (K (.ret (I6 0)) a) (K (.ret (I6 (-1))) a)) (ah b (K (.ret (I6 1)) a) (af (aC .lss a0 a1) fun f=>ah f (K (.ret (I6 (-1))) a) (af (aC .gtr a0 a1) fun g=>ah g (K (.ret (I6 1)) a) (K (.ret (I6 0)) a))))) (pK K))) (pK K))):=by kernel_rfl
theorem F.nB(hh:EV (aj Tryz.f159) (sM (az [a0,a1]) 20 h) (RL Tryz.f159 K)=true):Sem TP 159 [a0,a1] h K:=
 SB Tryz.func159 hh
theorem F.nC:EV (aj Tryz.f160) (sM (az [a0,a1]) 11 h) (RL Tryz.f160 K)=(af (aC .lss a0 (I6 0)) fun a=>ah a (K (.ret bT) h) (af (au none a1 h) fun b=>af (aC .geq a0 b) fun c=>K (.ret c) h)):=by kernel_rfl
theorem F.mH(hh:EV (aj Tryz.f160) (sM (az [a0,a1]) 11 h) (RL Tryz.f160 K)=true):Sem TP 160 [a0,a1] h K:=
 SB Tryz.func160 hh
theorem F.rN:EV (aj Tryz.f194) (sM (az [a0]) 6 h) (RL Tryz.f194 K)=(af (jN (.int .i64) a0 a0) fun a=>K (.ret a) h):=by kernel_rfl
theorem F.qp(hh:EV (aj Tryz.f194) (sM (az [a0]) 6 h) (RL Tryz.f194 K)=true):Sem TP 194 [a0] h K:=
 SB Tryz.func194 hh
theorem zw(h1:1<=n)(h:i<=k):n ^ i<=n ^ k:=Nat.pow_le_pow_right h1 h
theorem dP{n k:Nat}(h1:1<=n)(h2:n<=64)(hk:k<=dx){h:Heap}{K:Out->Heap->Bool}(hK:∀ v:Nat,(n ^ k<=4096->v=n ^ k)->(4096<n ^ k->4096<v)->K (.ret (I6 (v:Int))) h=true) :
  Sem TP 87 [I6 (n:Int),I6 (k:Int)] h K:=by
 refine F.xh ?_;rw [F.zq];refine aI 0 k (zero_le _) (fun i e h'=>h'=h/\e 0=I6 (n:Int)/\e 1=I6 (k:Int)/\e 6=I6 (i:Int)/\e 5=I6 ((n ^ i:Nat):Int)/\n ^ i<=262144) ⟨rfl,rfl,rfl,rfl,rfl,by simp⟩ ?_ ?_
 ·rintro i e h' _ hi ⟨rfl,e0,e1,e6,e5,hb⟩ K' hn hx hr hp;rw [F.dP.aT];simp only [e0,e1,e5,e6,br,reduceAdd,reduceEqDiff,reduceIte,bu hi];by_cases hc:n ^ i<=4096
  ·have hm:n ^ i*n<=4096*64:=Nat.mul_le_mul hc h2;have rf:((n ^ i:Nat):Int)*(n:Int)=((n ^ (i+1):Nat):Int):=by rw [Nat.pow_succ,Int.natCast_mul]
   have hs:n ^ (i+1)<=262144:=by rw [Nat.pow_succ];omega
   have hmul:aC .mul (I6 ((n ^ i:Nat):Int)) (I6 (n:Int))=some (I6 ((n ^ (i+1):Nat):Int)):=by
    rw [y8 (by rw [rf];omega) (by rw [rf];omega),rf]
   simp only [fS (by omega:((n ^ i:Nat):Int)<=4096),aA,hmul,aN hi hk,cN];exact hn _ _ ⟨rfl,e0,e1,rfl,rfl,hs⟩
  ·simp only [fB (by omega:¬ ((n ^ i:Nat):Int)<=4096),ax];rw [hx,F.dP.aF];simp only [e5,lV,reduceEqDiff,reduceIte];have:=zw h1 (Nat.le_of_lt hi);exact hK _ (fun h=>by omega) (fun _=>by omega)
 ·rintro e h' ⟨rfl,e0,e1,e6,e5,hb⟩ K' hx;rw [F.dP.aT];simp only [e0,e1,e5,e6,br,reduceAdd,reduceEqDiff,reduceIte,bf];rw [hx,F.dP.aF];simp only [e5,lV,reduceEqDiff,reduceIte];exact hK _ (fun _=>rfl) (fun h=>h)
def Cp(n k:Nat):Int:=if n ^ k<=4096 then ((n ^ k:Nat):Int) else -1
theorem cn{n k:Nat}(h1:1<=n)(h2:n<=64)(hk:k<=dx){h:Heap}{K:Out->Heap->Bool}(hK:K (.ret (I6 (Cp n k))) h=true) :
  Sem TP 153 [I6 (n:Int),I6 (k:Int),I6 4096] h K:=by
 refine F.tE ?_;rw [F.vP];refine aI 0 k (zero_le _) (fun i e h'=>h'=h/\e 0=I6 (n:Int)/\e 2=I6 4096/\e 8=I6 (k:Int)/\e 9=I6 (i:Int)/\e 7=I6 ((n ^ i:Nat):Int)/\n ^ i<=4096) ⟨rfl,rfl,rfl,rfl,rfl,rfl,by simp⟩ ?_ ?_
 ·rintro i e h' _ hi ⟨rfl,e0,e2,e8,e9,e7,hb⟩ K' hn hx hr hp;rw [F.cn.aT];have hm:n ^ i*n<=4096*64:=Nat.mul_le_mul hb h2;have rf:((n ^ i:Nat):Int)*(n:Int)=((n ^ (i+1):Nat):Int):=by rw [Nat.pow_succ,Int.natCast_mul]
  have hs:n ^ (i+1)<=262144:=by rw [Nat.pow_succ];omega
  have hmul:aC .mul (I6 ((n ^ i:Nat):Int)) (I6 (n:Int))=some (I6 ((n ^ (i+1):Nat):Int)):=by
   rw [y8 (by rw [rf];omega) (by rw [rf];omega),rf]
  simp only [e0,e2,e7,e8,e9,br,reduceAdd,reduceEqDiff,reduceIte,bu hi,hmul];by_cases hc:n ^ (i+1)<=4096
  ·simp only [fB (by omega:¬ (4096:Int)<((n ^ (i+1):Nat):Int)),ax,aN hi hk,cN];exact hn _ _ ⟨rfl,e0,e2,e8,rfl,rfl,hc⟩
  ·simp only [fS (by omega:(4096:Int)<((n ^ (i+1):Nat):Int)),aA];rw [hr,F.cn.bh];simp only [lV,reduceEqDiff,reduceIte];have:=zw h1 (show i+1<=k from hi);rw [Cp,if_neg (by omega)] at hK;exact hK
 ·rintro e h' ⟨rfl,e0,e2,e8,e9,e7,hb⟩ K' hx;rw [F.cn.aT];simp only [e8,e9,br,reduceAdd,reduceEqDiff,reduceIte,bf];rw [hx,F.cn.aF];simp only [e7,lV,reduceEqDiff,reduceIte];rw [Cp,if_pos hb] at hK;exact hK
def Eg(n k:Nat):AV:=if 12<k then .tuple [I6 0,I6 2] else if 4096<n ^ k then .tuple [I6 0,I6 5] else .tuple [I6 ((n ^ k:Nat):Int),I6 0]
theorem mI(h1:1<=n)(h2:n<=64)(hk:k<=dx)(hK:K (.ret (Eg n k)) h=true):Sem TP 110 [I6 (n:Int),I6 (k:Int)] h K:=by
 refine F.tr ?_;rw [F.vJ];simp only [br,reduceAdd,reduceEqDiff,reduceIte,fB (by omega:¬ (n:Int)<1),fB (by omega:¬ (64:Int)<(n:Int)),fB (by omega:¬ (k:Int)<0)];unfold Eg at hK;by_cases IK:12<k
 ·rw [if_pos IK] at hK;simp only [fS (by omega:(12:Int)<(k:Int)),aA];exact hK
 ·rw [if_neg IK] at hK;simp only [fB (by omega:¬ (12:Int)<(k:Int)),ax];refine ag (cn h1 h2 hk ?_);simp only [br,reduceAdd,reduceEqDiff,reduceIte];by_cases hc:n ^ k<=4096
  ·rw [if_neg (by omega)] at hK;simp only [Cp,if_pos hc,fB (by omega:¬ ((n ^ k:Nat):Int)<0),ax];exact hK
  ·rw [if_pos (by omega)] at hK;simp only [Cp,if_neg hc,fS (by omega:(-1:Int)<0),aA];exact hK
theorem Cq{b:Nat}{n:Int}(hb:h.get b=sC [I6 n])(v:Int)(K:Out->Heap->Bool)(hK:K (.ret (.bool (zj n v))) h=true):Sem TP 160 ([]++([I6 v]++[.ptr b 0])) h K:=by
 refine F.mH ?_;rw [F.nC];simp only [ai hb,br,reduceAdd,reduceEqDiff,reduceIte];unfold zj at hK;by_cases h1:v<0<;>by_cases h2:n<=v<;>simpa [h1,h2] using hK
theorem jG{n:Int}{x:Sl Int}(hx:x.l.length<=dx)(hK:K (.ret (.bool (gM n x.l))) h=true):Sem TP 103 [I6 n,gr x] h K:=by
 refine Sem.data (r:=.bool (gM n x.l)) ?_ (by simp [AV.bQ,AV.pure,dU gT]) hK;refine F.oG ?_;rw [F.qj];simp only [ue (x:=I6 _) rfl,cN,aV];have g0:(Heap.alloc Heap.empty (.cells [I6 n])).get 0=sC [I6 n]:=ay _ _;refine ag (iJ hx (Cq g0) ?_);simp only [br,reduceAdd,reduceEqDiff,reduceIte];rw [Cn];exact dO rfl
def lW(n:Nat):List Int->Nat->Nat
 |[],r=>r
 |x :: l,r=>lW n l (r*n+x.toNat)
def iw(n:Nat)(l:List Int):Nat:=lW n l 0
theorem mJ(n:Nat):∀ (a b:List Int) (r:Nat),lW n (a++b) r=lW n b (lW n a r)
 |[],_,_=>rfl
 |x :: a,b,r=>mJ n a b _
theorem Dr{n:Nat}:∀ (l:List Int) (r i:Nat),gM n l=true->r<n ^ i->lW n l r<n ^ (i+l.length)
 |[],r,i,_,h=>h
 |x :: l,r,i,hb,h=>by
  simp only [gM,all_cons,and_eq_true,not_eq_true',decide_eq_false_iff_not] at hb
  have:r*n+x.toNat<n ^ (i+1):=by
   have h1:(r+1)*n<=n ^ i*n:=mul_le_mul_right n h;rw [succ_mul] at h1;rw [Nat.pow_succ];omega
  have:=Dr l (r*n+x.toNat) (i+1) (by rw [gM,List.all_eq_true];simpa using hb.2) this;rw [length_cons,show i+(l.length+1)=i+1+l.length by omega];exact this
theorem vQ(hb:gM n l=true):iw n l<n ^ l.length:=by
 have:=Dr l 0 0 hb (by simp);rw [Nat.zero_add] at this;exact this
theorem FW(hv:l[i]?=some v):iw n (l.take (i+1))=iw n (l.take i)*n+v.toNat:=by
 rw [iw,take_add_one,hv,mJ];rfl
theorem Hu{n:Int}(hb:gM n l=true)(i:Nat):gM n (l.take i)=true:=by
 unfold gM at hb ⊢;rw [List.all_eq_true] at hb ⊢;exact fun x hx=>hb x (mem_of_mem_take hx)
theorem JR{n:Int}(hb:gM n l=true)(hv:l[i]?=some v):0<=v/\v<n:=by
 unfold gM at hb;rw [List.all_eq_true] at hb;have:=hb v (iz hv);simp at this;omega
theorem AZ(hb:gM n l=true)(h1:1<=n)(hc:n ^ l.length<=4096)(hv:l[i]?=some v) :
  aC .mul (I6 ((iw n (l.take i):Nat):Int)) (I6 (n:Int))=some (I6 ((iw n (l.take i)*n:Nat):Int)) /\
  aC .add (I6 ((iw n (l.take i)*n:Nat):Int)) (I6 v)=some (I6 ((iw n (l.take (i+1)):Nat):Int)):=by
 have hi:i<l.length:=(fR.1 hv).1;have hlt:iw n (l.take (i+1))<n ^ (l.take (i+1)).length:=vQ (Hu hb _);have hp:n ^ (l.take (i+1)).length<=4096:=Nat.le_trans (zw h1 (by rw [length_take];omega)) hc;obtain ⟨v0,v1⟩:=JR hb hv;have he:iw n (l.take (i+1))=iw n (l.take i)*n+v.toNat:=FW hv;have hm:((iw n (l.take i):Nat):Int)*(n:Int)=((iw n (l.take i)*n:Nat):Int):=by rw [Int.natCast_mul]
 have hs:((iw n (l.take i)*n:Nat):Int)+v=((iw n (l.take (i+1)):Nat):Int):=by omega
 exact ⟨by rw [y8 (by rw [hm];omega) (by rw [hm];omega),hm],by rw [k7 (by rw [hs];omega) (by rw [hs];omega),hs]⟩
theorem dA{n:Nat}(h1:1<=n)(h2:n<=64){x:Sl Int}(hx:x.l.length<=12)(hc:n ^ x.l.length<=4096)(hb:gM n x.l=true){h:Heap}{K:Out->Heap->Bool}
  (hK:K (.ret (.tuple [I6 ((iw n x.l:Nat):Int),I6 0])) h=true):Sem TP 111 [I6 (n:Int),gr x] h K:=by
 have hbig:x.l.length<=dx:=by unfold dx;omega
 refine F.vK ?_;rw [F.xk];simp only [br,reduceAdd,reduceEqDiff,reduceIte];refine ag (mI h1 h2 hbig ?_);simp only [Eg,if_neg (by omega:¬ 12<x.l.length),if_neg (by omega:¬ 4096<n ^ x.l.length),br,reduceAdd,reduceEqDiff,reduceIte,beq_self_eq_true,Bool.not_true,ax];refine ag (jG hbig ?_);simp only [br,reduceAdd,reduceEqDiff,reduceIte,hb,Bool.not_true,ax];refine aI 0 x.l.length (zero_le _) (fun i e h'=>h'=h/\e 0=I6 (n:Int)/\e 8=I6 ((iw n (x.l.take i):Nat):Int)/\e 25=gr x/\e 26=I6 (x.l.length:Int)/\e 27=I6 (i:Int)) ⟨rfl,rfl,rfl,rfl,rfl,rfl⟩ ?_ ?_
 ·rintro i e h' _ hi ⟨rfl,e0,e8,JS,Hv,IM⟩ K' hn gG hr hp;have hv:x.l[i]?=some x.l[i]:=fc hi;rw [F.dA.aT];simp only [e0,e8,JS,Hv,IM,br,reduceAdd,reduceEqDiff,reduceIte,bu hi,bt x hi,eN hv,(AZ hb h1 hc hv).1,(AZ hb h1 hc hv).2,aN hi hbig];exact hn _ _ ⟨rfl,e0,rfl,JS,Hv,rfl⟩
 ·rintro e h' ⟨rfl,e0,e8,JS,Hv,IM⟩ K' gG;rw [F.dA.aT];simp only [Hv,IM,br,reduceAdd,reduceEqDiff,reduceIte,bf];rw [gG,F.dA.aF];simp only [e8,lV,reduceEqDiff,reduceIte];rw [yA (dR _)];exact hK
def bO:List Int->List Int->Bool
 |a :: l,b :: m=>if a=b then bO l m else decide (a<b)
 |_,_=>false
theorem oJ{m:List Int}{b:Int}(ha:l[i]?=some a)(hb:m[i]?=some b):bO (l.drop i) (m.drop i)=if a=b then bO (l.drop (i+1)) (m.drop (i+1)) else decide (a<b):=by
 have h1:=(fR.1 ha).1;have h2:=(fR.1 hb).1;rw [drop_eq_getElem_cons h1,drop_eq_getElem_cons h2];rw [fc h1] at ha;rw [fc h2] at hb;cases ha;cases hb;rfl
theorem cW{x y:Sl Int}(hx:x.l.length<=dx)(LL:x.l.length=y.l.length){h:Heap}{K:Out->Heap->Bool}(hK:K (.ret (.bool (bO x.l y.l))) h=true):Sem TP 145 [gr x,gr y] h K:=by
 refine F.vO ?_;rw [F.xo];refine aI 0 x.l.length (zero_le _) (fun i e h'=>h'=h/\e 0=gr x/\e 1=gr y/\e 5=I6 (i:Int)/\bO x.l y.l=bO (x.l.drop i) (y.l.drop i)) ⟨rfl,rfl,rfl,rfl,rfl⟩ ?_ ?_
 ·rintro i e h' _ hi ⟨rfl,e0,e1,e5,hl⟩ K' hn gG hr hp;have Cb:i<y.l.length:=by omega
  have hv:x.l[i]?=some x.l[i]:=fc hi;have hw:y.l[i]?=some y.l[i]:=fc Cb;rw [oJ hv hw] at hl;generalize x.l[i]=a at hv hl;generalize y.l[i]=b at hw hl;rw [F.cW.aT];simp only [e0,e1,e5,br,reduceAdd,reduceEqDiff,reduceIte,bu hi,bt x hi,bt y Cb,eN hv,eN hw,b9];by_cases rq:a=b
  ·rw [if_pos rq] at hl;simp only [fS rq,Bool.not_true,ax,aN hi hx,cN];exact hn _ _ ⟨rfl,e0,e1,rfl,hl⟩
  ·rw [if_neg rq] at hl;simp only [fB rq,Bool.not_false,aA];rw [hr,F.cW.bh];simp only [lV,reduceEqDiff,reduceIte];rw [hl] at hK;exact hK
 ·rintro e h' ⟨rfl,e0,e1,e5,hl⟩ K' gG;rw [F.cW.aT];simp only [e0,e5,br,reduceAdd,reduceEqDiff,reduceIte,bf];rw [gG,F.cW.aF];rw [drop_of_length_le (dR _)] at hl;rw [hl] at hK;exact hK
theorem yd(hK:K (.ret bF) h=true):Sem TP 194 [I6 a] h K:=by
 refine F.qp ?_;rw [F.rN];simp only [br,reduceAdd,reduceEqDiff,reduceIte,beq_self_eq_true,Bool.not_true];exact hK
theorem sO{b:Int}(hK:∀ c:Int,(c=0↔a=b)->(c<0↔a<b)->K (.ret (I6 c)) h=true):Sem TP 159 [I6 a,I6 b] h K:=by
 refine F.nB ?_;rw [F.oI];refine ag (yd ?_);simp only [br,reduceAdd,reduceEqDiff,reduceIte];refine ag (yd ?_);simp only [br,reduceAdd,reduceEqDiff,reduceIte];by_cases h1:a<b
 ·simp only [fS h1,aA];exact hK _ (by omega) (by omega)
 ·simp only [fB h1,ax];by_cases h2:b<a
  ·simp only [fS h2,aA];exact hK _ (by omega) (by omega)
  ·simp only [fB h2,ax];exact hK _ (by omega) (by omega)
theorem vR{x y:Sl Int}(hx:x.l.length<=dx)(LL:x.l.length=y.l.length)(hK:∀ c:Int,decide (0<=c) = !(bO x.l y.l)->K (.ret (I6 c)) h=true):Sem TP 102 [gr x,gr y] h K:=by
 refine F.fH ?_;rw [F.fP];simp only [br,reduceAdd,reduceEqDiff,reduceIte];refine aI 0 x.l.length (zero_le _) (fun i e h'=>h'=h/\e 0=gr x/\e 1=gr y/\e 9=gr x/\e 10=I6 (x.l.length:Int)/\e 11=I6 (i:Int)/\bO x.l y.l=bO (x.l.drop i) (y.l.drop i)) ⟨rfl,rfl,rfl,rfl,rfl,rfl,rfl⟩ ?_ ?_
 ·rintro i e h' _ hi ⟨rfl,e0,e1,e9,iK,sP,hl⟩ K' hn gG hr hp;have Cb:i<y.l.length:=by omega
  have hv:x.l[i]?=some x.l[i]:=fc hi;have hw:y.l[i]?=some y.l[i]:=fc Cb;rw [oJ hv hw] at hl;generalize x.l[i]=a at hv hl;generalize y.l[i]=b at hw hl;rw [F.aM.aT];simp only [e0,e1,e9,iK,sP,br,reduceAdd,reduceEqDiff,reduceIte,bu hi,bt x hi,bt y Cb,eN hv,eN hw,fB (by omega:¬ (y.l.length:Int)<=(i:Int))];refine ag (sO fun c c1 c2=>?_);simp only [br,reduceAdd,reduceEqDiff,reduceIte,b9];by_cases rq:a=b
  ·rw [if_pos rq] at hl;simp only [fS (c1.2 rq),Bool.not_true,ax,aN hi hx,cN];exact hn _ _ ⟨rfl,e0,e1,e9,iK,rfl,hl⟩
  ·rw [if_neg rq] at hl;simp only [fB (fun h=>rq (c1.1 h)),Bool.not_false,aA];rw [hr,F.aM.bh];simp only [lV,reduceEqDiff,reduceIte];refine hK c ?_;rw [hl];by_cases hlt:a<b
   ·rw [fS hlt,fB (by have:=c2.2 hlt;omega)];rfl
   ·rw [fB hlt,fS (by have:=mt c2.1 hlt;omega)];rfl
 ·rintro e h' ⟨rfl,e0,e1,e9,iK,sP,hl⟩ K' gG;rw [F.aM.aT];simp only [iK,sP,br,reduceAdd,reduceEqDiff,reduceIte,bf];rw [gG,F.aM.aF];simp only [e0,e1,br,reduceAdd,reduceEqDiff,reduceIte,fB (by omega:¬ (x.l.length:Int)<(y.l.length:Int))];rw [drop_of_length_le (dR _)] at hl;exact hK 0 (by rw [hl];rfl)
structure View {α:Type} (enc:α->List AV) (sz:Nat) (a:AV) (l:List α):Prop where
 len:∀ h:Heap,bB .slice a h=some (I6 (l.length:Int))
 at_:∀ (i:Nat) (v:α),l[i]?=some v->∃ cs o,(∀ k:IntKind,iZ sz a (.int k (i:Int))=some (.cS cs o))/\(∀ h:Heap,au (some sz) (.cS cs o) h=some (.agg (enc v)))/\∀ (m:Nat),m<sz->∀ h:Heap,au none (.cS cs (o+m)) h=(enc v)[m]?
theorem FX{enc:α->List AV}{sz:Nat}(he:∀ a,(enc a).length=sz)(x:Sl α):View enc sz (cp enc sz x) x.l where
 len h:=pW x h
 at_ i v hv:=⟨x.l.flatMap enc,i*sz,fun k=>bt x (fR.1 hv).1,fun h=>g8 he hv,fun m hm h=>fK he hv hm⟩
theorem Eh{enc:α->List AV}{sz:Nat}(he:∀ a,(enc a).length=sz)(x:Sl α)(hi:i<=x.l.length) :
  ∃ a,(∀ k:IntKind,eX (some sz) (cp enc sz x) none (some (.int k (i:Int)))=some a)/\View enc sz a (x.l.take i):=by
 cases x with
 |none=>
  simp only [Sl.JB,length_nil,le_zero_eq] at hi;subst hi;exact ⟨.aE,fun k=>by simp [eX,cp,iB,j5,asNat],⟨fun h=>rfl,fun j v hv=>by simp at hv⟩⟩
 |some l=>
  simp only [Sl.FE] at hi ⊢;refine ⟨.aL (l.flatMap enc) 0 i sz,fun k=>?_,⟨fun h=>by simp [bB,Nat.min_eq_left hi],fun j v hv=>?_⟩⟩
  ·simp [eX,cp,iB,j5,asNat,hi]
  ·have hj:j<i:=by have:=(fR.1 hv).1;rw [length_take] at this;omega
   rw [getElem?_take_of_lt hj] at hv;exact ⟨l.flatMap enc,j*sz,fun k=>by simp [iZ,asNat,hj],fun h=>g8 he hv,fun m hm h=>fK he hv hm⟩
def eA(t:Sl Int):List AV:=[gr t]
abbrev zx(x:Sl (Sl Int)):AV:=cp eA 1 x
theorem qq(t:Sl Int):(eA t).length=1:=rfl
theorem rO(t:Sl Int):AV.bQ (eA t)=true:=by simp [eA,AV.bQ,dU gT]
structure Rel where
 name:bI
 arity:Int
 aP:Sl (Sl Int)
def bA(r:Rel):List AV:=[.str r.name,I6 r.arity,zx r.aP]
abbrev BF(x:Sl Rel):AV:=cp bA 3 x
theorem fq(r:Rel):(bA r).length=3:=rfl
theorem mK(r:Rel):AV.bQ (bA r)=true:=by simp [bA,AV.bQ,AV.pure,dU rO]
theorem iL(r:Rel):bw (bA r)=true:=by unfold bA;simp only [bw,nk,Bool.and_true];rfl
def Rel.ok(r:Rel):Prop:=r.name.length<=dx/\r.aP.l.length<=dx/\∀ t ∈ r.aP.l,t.l.length<=dx
structure ew where
 size:Int
 aQ:Sl Rel
def ak(s:ew):List AV:=[I6 s.size,BF s.aQ]
theorem dH(s:ew):AV.bQ (ak s)=true:=by simp [ak,AV.bQ,AV.pure,dU mK]
theorem cL(s:ew):bw (ak s)=true:=by unfold ak;simp only [bw,nk,Bool.and_true];rfl
def ew.ok(s:ew):Prop:=s.aQ.l.length<=dx/\∀ r ∈ s.aQ.l,r.ok
def xp(p:Nat->Bool)(n:Nat):Bool:=(List.range n).all p
theorem jl(h:∀ j,j<n->p j=true):xp p n=true:=by
 rw [xp,List.all_eq_true];exact fun x hx=>h x (mem_range.1 hx)
theorem fu(hi:i<n)(h:p i=false):xp p n=false:=by
 rw [eq_false_iff];intro hh;rw [xp,List.all_eq_true] at hh;have:=hh i (mem_range.2 hi);rw [h] at this;cases this
theorem qt(h:xp p n=true)(hi:i<n):p i=true:=by
 rw [xp,List.all_eq_true] at h;exact h i (mem_range.2 hi)
def hU(n k:Nat)(l:List (Sl Int))(i:Nat):Bool:=match l[i]? with
 |none=>true
 |some t=>decide (t.l.length=k)&&(gM n t.l&&(match i with
  |0=>true
  |j+1=>match l[j]? with
   |none=>true
   |some p=>bO p.l t.l))
def qu(n k:Nat)(l:List (Sl Int)):Bool:=xp (hU n k l) l.length
theorem Dt{l:List (Sl Int)}{t:Sl Int}(h:hU n k l i=true)(ht:l[i]?=some t):t.l.length=k:=by
 unfold hU at h;rw [ht] at h;simp only [and_eq_true,decide_eq_true_eq] at h;exact h.1
theorem fy{l:List (Sl Int)}{t:Sl Int}(ht:l[i]?=some t):au none (.cS (l.flatMap eA) (i*1)) h=some (gr t):=by
 rw [uZ qq ht];rfl
theorem bK{n k:Nat}{r:Rel}(hr:r.ok)(ha:r.arity=(k:Int)){h:Heap}{K:Out->Heap->Bool}(hK:K (.ret (.bool (qu n k r.aP.l))) h=true):Sem TP 154 [I6 (n:Int),.agg (bA r)] h K:=by
 refine Sem.data (r:=.bool (qu n k r.aP.l)) ?_ (by simp [AV.bQ,AV.pure,mK]) hK;clear hK;refine F.rJ ?_;rw [F.tF];have b0:(Heap.alloc Heap.empty (.cells (bA r))).get 0=sC (bA r):=ay _ _;simp only [cc (iL r),cN,aV];generalize (Heap.alloc Heap.empty (.cells (bA r)))=H at b0 ⊢;have fin:∀ b:Bool,b=qu n k r.aP.l->jD (.bool (qu n k r.aP.l)) (.ret (.bool b)) H=true:=fun b hb=>by rw [hb];exact dO rfl
 simp only [br,reduceAdd,reduceEqDiff,reduceIte,ai b0,bA];refine aI 0 r.aP.l.length (zero_le _) (fun i e h'=>h'=H/\e 0=I6 (n:Int)/\e 3 = .ptr 0 0/\e 8=zx r.aP/\e 9=I6 (r.aP.l.length:Int)/\e 10=I6 (i:Int)/\∀ j,j<i->hU n k r.aP.l j=true) ⟨rfl,rfl,rfl,rfl,rfl,rfl,fun j hj=>by omega⟩ ?_ ?_
 ·rintro i e h' _ hi ⟨rfl,e0,e3,e8,e9,iK,ht⟩ K' hn gG zy hp;have hv:r.aP.l[i]?=some r.aP.l[i]:=fc hi;generalize r.aP.l[i]=t at hv;have NG:t.l.length<=dx:=hr.2.2 t (iz hv)
  have bad:hU n k r.aP.l i=false->F.bK.cB (jD (.bool (qu n k r.aP.l))) .ret (sM (bZ e 4 bF) 42 h')=true:=fun hb=>by
   rw [F.bK.bh];simp only [lV,reduceEqDiff,reduceIte];exact fin _ (fu hi hb).symm
  rw [F.bK.aT];simp only [e0,e3,e8,e9,iK,br,reduceAdd,reduceEqDiff,reduceIte,bu hi,bt r.aP hi,fy hv,ai b0,bA,b9,ha];by_cases h1:t.l.length=k
  ·simp only [fS (by omega:(t.l.length:Int)=(k:Int)),Bool.not_true,ax];refine ag (jG NG ?_);simp only [br,reduceAdd,reduceEqDiff,reduceIte]
   cases h2:gM n t.l with
   |false=>
    simp only [Bool.not_false,aA];rw [zy,F.bK.bh];simp only [lV,reduceEqDiff,reduceIte];exact fin _ (fu hi (by simp [hU,hv,h2])).symm
   |true=>
    simp only [Bool.not_true,ax]
    cases i with
    |zero=>
     simp only [show decide ((0:Int)<((0:Nat):Int))=false from rfl,ax,aN hi hr.2.1,cN];refine hn _ _ ⟨rfl,e0,e3,e8,e9,rfl,fun j hj=>?_⟩;obtain rfl:j=0:=by omega
     simp [hU,hv,h1,h2]
    |succ i=>
     have hi0:i<r.aP.l.length:=(by omega);have qJ:r.aP.l[i]?=some r.aP.l[i]:=fc hi0;generalize r.aP.l[i]=p at qJ;have EK:p.l.length=k:=Dt (ht i (by omega)) qJ;have Jm:p.l.length<=dx:=hr.2.2 p (iz qJ)
     have FY:aC .sub (I6 ((i+1:Nat):Int)) (I6 1)=some (I6 (i:Int)):=by
      have:=hr.2.1;unfold dx at this;rw [pX (by omega) (by omega)];congr 2;omega
     simp only [fS (by omega:(0:Int)<((i+1:Nat):Int)),aA,br,reduceAdd,reduceEqDiff,reduceIte,e3,ai b0,bA,FY,bt r.aP hi0,fy qJ];refine ag (vR Jm (by omega) fun c hc=>?_);simp only [br,reduceAdd,reduceEqDiff,reduceIte,hc]
     cases h3:bO p.l t.l with
     |false=>
      simp only [Bool.not_false,aA];rw [zy,F.bK.bh];simp only [lV,reduceEqDiff,reduceIte];exact fin _ (fu hi (by simp [hU,hv,qJ,h3])).symm
     |true=>
      simp only [Bool.not_true,ax,aN hi hr.2.1,cN];refine hn _ _ ⟨rfl,e0,e3,e8,e9,rfl,fun j hj=>?_⟩;by_cases DT:j<i+1
      ·exact ht j DT
      ·obtain rfl:j=i+1:=by omega
       simp [hU,hv,qJ,h1,h2,h3]
  ·simp only [fB (by omega:¬ (t.l.length:Int)=(k:Int)),Bool.not_false,aA];rw [zy,F.bK.bh];simp only [lV,reduceEqDiff,reduceIte];exact fin _ (fu hi (by simp [hU,hv,h1])).symm
 ·rintro e h' ⟨rfl,e0,e3,e8,e9,iK,ht⟩ K' gG;rw [F.bK.aT];simp only [e9,iK,br,reduceAdd,reduceEqDiff,reduceIte,bf];rw [gG,F.bK.aF];exact fin _ (jl ht).symm
def jc(n:Nat)(r:Rel):Bool:=eU r.name&&(decide (0<=r.arity)&&(decide (r.arity<=12)&&(decide (n ^ r.arity.toNat<=4096)&&qu n r.arity.toNat r.aP.l)))
theorem c9{n:Nat}(h1:1<=n)(h2:n<=64){r:Rel}(hr:r.ok){h:Heap}{K:Out->Heap->Bool}(hK:K (.ret (.bool (jc n r))) h=true):Sem TP 114 [I6 (n:Int),.agg (bA r)] h K:=by
 refine Sem.data (r:=.bool (jc n r)) ?_ (by simp [AV.bQ,AV.pure,mK]) hK;clear hK;refine F.xm ?_;rw [F.zu];have b0:(Heap.alloc Heap.empty (.cells (bA r))).get 0=sC (bA r):=ay _ _;simp only [cc (iL r),cN,aV];generalize (Heap.alloc Heap.empty (.cells (bA r)))=H at b0 ⊢;have fin:∀ b:Bool,b=jc n r->jD (.bool (jc n r)) (.ret (.bool b)) H=true:=fun b hb=>by rw [hb];exact dO rfl
 simp only [br,reduceAdd,reduceEqDiff,reduceIte,ai b0,bA];refine ag (cG ?_);simp only [br,reduceAdd,reduceEqDiff,reduceIte]
 cases hn:eU r.name with
 |false=>simp only [Bool.not_false,aA];exact fin _ (by simp [jc,hn])
 |true=>
 simp only [Bool.not_true,ax,br,reduceAdd,reduceEqDiff,reduceIte,ai b0,bA];by_cases ha:r.arity<0
 ·simp only [fS ha,aA];exact fin _ (by rw [jc,fB (by omega:¬ 0<=r.arity)];simp)
 simp only [fB ha,ax];by_cases Pk:12<r.arity
 ·simp only [fS Pk,aA];exact fin _ (by rw [jc,fB (by omega:¬ r.arity<=12)];simp)
 simp only [fB Pk,ax];obtain ⟨k,hk⟩:∃ k:Nat,r.arity=(k:Int):=⟨r.arity.toNat,by omega⟩
 rw [hk];refine ag (dP h1 h2 (show k<=dx by unfold dx;omega) fun v v1 v2=>?_);simp only [br,reduceAdd,reduceEqDiff,reduceIte]
 have GH:jc n r=(decide (n ^ k<=4096)&&qu n k r.aP.l):=by
  rw [jc,hn,fS (by omega:0<=r.arity),fS (by omega:r.arity<=12),hk];rfl
 replace fin:∀ b:Bool,b=(decide (n ^ k<=4096)&&qu n k r.aP.l)->jD (.bool (jc n r)) (.ret (.bool b)) H=true:=fun b hb=>fin b (hb.trans GH.symm);by_cases hc:n ^ k<=4096
 ·have:=v1 hc;simp only [fB (by omega:¬ (4096:Int)<(v:Int)),ax];replace fin:∀ b:Bool,b=qu n k r.aP.l->jD (.bool (jc n r)) (.ret (.bool b)) H=true:=fun b hb=>fin b (by rw [fS hc,Bool.true_and];exact hb);refine aI 0 r.aP.l.length (zero_le _) (fun i e h'=>h'=H/\e 0=I6 (n:Int)/\e 3 = .ptr 0 0/\e 5=I6 (i:Int)/\∀ j,j<i->hU n k r.aP.l j=true) ⟨rfl,rfl,rfl,rfl,fun j hj=>by omega⟩ ?_ ?_
  ·rintro i e h' _ hi ⟨rfl,e0,e3,e5,ht⟩ K' hn gG zy hp;have hv:r.aP.l[i]?=some r.aP.l[i]:=fc hi;generalize r.aP.l[i]=t at hv;have NG:t.l.length<=dx:=hr.2.2 t (iz hv);rw [F.c9.aT];simp only [e0,e3,e5,br,reduceAdd,reduceEqDiff,reduceIte,ai b0,bA,bu hi,bt r.aP hi,fy hv,b9,hk];by_cases q1:t.l.length=k
   ·simp only [fS (by omega:(t.l.length:Int)=(k:Int)),Bool.not_true,ax];refine ag (dK NG ?_);simp only [br,reduceAdd,reduceEqDiff,reduceIte]
    cases q2:gM n t.l with
    |false=>
     simp only [Bool.not_false,aA];rw [zy,F.c9.bh];simp only [lV,reduceEqDiff,reduceIte];exact fin _ (fu hi (by simp [hU,hv,q2])).symm
    |true=>
     simp only [Bool.not_true,ax]
     cases i with
     |zero=>
      simp only [show decide ((0:Int)<((0:Nat):Int))=false from rfl,ax,aN hi hr.2.1,cN];refine hn _ _ ⟨rfl,e0,e3,rfl,fun j hj=>?_⟩;obtain rfl:j=0:=by omega
      simp [hU,hv,q1,q2]
     |succ i=>
      have hi0:i<r.aP.l.length:=(by omega);have qJ:r.aP.l[i]?=some r.aP.l[i]:=fc hi0;generalize r.aP.l[i]=p at qJ;have EK:p.l.length=k:=Dt (ht i (by omega)) qJ;have Jm:p.l.length<=dx:=hr.2.2 p (iz qJ)
      have FY:aC .sub (I6 ((i+1:Nat):Int)) (I6 1)=some (I6 (i:Int)):=by
       have:=hr.2.1;unfold dx at this;rw [pX (by omega) (by omega)];congr 2;omega
      simp only [fS (by omega:(0:Int)<((i+1:Nat):Int)),aA,br,reduceAdd,reduceEqDiff,reduceIte,e3,e5,ai b0,bA,FY,bt r.aP hi0,bt r.aP hi,fy qJ,fy hv];refine ag (cW Jm (by omega) ?_);simp only [br,reduceAdd,reduceEqDiff,reduceIte]
      cases q3:bO p.l t.l with
      |false=>
       simp only [Bool.not_false,aA];rw [zy,F.c9.bh];simp only [lV,reduceEqDiff,reduceIte];exact fin _ (fu hi (by simp [hU,hv,qJ,q3])).symm
      |true=>
       simp only [Bool.not_true,ax,aN hi hr.2.1,cN];refine hn _ _ ⟨rfl,e0,e3,rfl,fun j hj=>?_⟩;by_cases DT:j<i+1
       ·exact ht j DT
       ·obtain rfl:j=i+1:=by omega
        simp [hU,hv,qJ,q1,q2,q3]
   ·simp only [fB (by omega:¬ (t.l.length:Int)=(k:Int)),Bool.not_false,aA];rw [zy,F.c9.bh];simp only [lV,reduceEqDiff,reduceIte];exact fin _ (fu hi (by simp [hU,hv,q1])).symm
  ·rintro e h' ⟨rfl,e0,e3,e5,ht⟩ K' gG;rw [F.c9.aT];simp only [e3,e5,br,reduceAdd,reduceEqDiff,reduceIte,ai b0,bA,bf];rw [gG,F.c9.aF];exact fin _ (jl ht).symm
 ·have:=v2 (by omega);simp only [fS (by omega:(4096:Int)<(v:Int)),aA];exact fin _ (by rw [fB hc];rfl)
def mL{α:Type}(p:α->Bool):List α->Nat->Int
 |[],_=>-1
 |x :: l,i=>if p x=true then (i:Int) else mL p l (i+1)
def fO{α:Type}(p:α->Bool)(l:List α):Int:=mL p l 0
theorem A0{p:α->Bool}{l:List α}{v:α}(hv:l[i]?=some v):mL p (l.drop i) i=if p v=true then (i:Int) else mL p (l.drop (i+1)) (i+1):=by
 have h1:=(fR.1 hv).1;rw [drop_eq_getElem_cons h1];rw [fc h1] at hv;cases hv;rfl
theorem ye{α:Type}(p:α->Bool):∀ (l:List α) (i:Nat),decide (0<=mL p l i)=l.any p
 |[],i=>rfl
 |x :: l,i=>by
  rw [mL,any_cons]
  cases hp:p x with
  |true=>simp
  |false=>simpa using ye p l (i+1)
theorem Cr(p:α->Bool)(l:List α):decide (0<=fO p l)=l.any p:=ye p l 0
theorem nQ{x:AV}{l:List Rel}(hv:View bA 3 x l)(hl:l.length<=dx){g:FuncId}{a b:List AV}{p:Rel->Bool}
  (hp:∀ (v:Rel) (h':Heap),aX h h'->∀ (K:Out->Heap->Bool),(∀ EM,aX h' EM->K (.ret (.bool (p v))) EM=true)->Sem TP g (a++([.agg (bA v)]++b)) h' K)
  (hK:∀ h',aX h h'->K (.ret (I6 (fO p l))) h'=true):Sem TP 157 [x,.func g a b] h K:=by
 refine F.gd ?_;rw [F.gu];simp only [hv.len,cN];refine aI 0 l.length (zero_le _) (fun i e h'=>aX h h'/\e 0=x/\e 1 = .func g a b/\e 7=I6 (l.length:Int)/\e 8=I6 (i:Int)/\fO p l=mL p (l.drop i) i) ⟨aX.refl _,rfl,rfl,rfl,rfl,rfl⟩ ?_ ?_
 ·rintro i e h' _ hi ⟨hx,e0,e1,e7,e8,ht⟩ K' hn gG hr zP;have NH:l[i]?=some l[i]:=fc hi;generalize l[i]=v at NH;obtain ⟨cs,o,v1,v2,_⟩:=hv.at_ i v NH;rw [A0 NH] at ht;rw [F.aH.aT];simp only [e0,e1,e7,e8,br,reduceAdd,reduceEqDiff,reduceIte,bu hi,v1,v2,gL];refine ag (hp v h' hx _ fun EM gY=>?_);simp only [br,reduceAdd,reduceEqDiff,reduceIte]
  cases hq:p v with
  |true=>
   simp only [aA];rw [hr,F.aH.bh];simp only [lV,reduceEqDiff,reduceIte];rw [if_pos hq] at ht;rw [ht] at hK;exact hK _ (hx.trans gY)
  |false=>
   simp only [ax,aN hi hl,cN];rw [if_neg (by rw [hq];decide)] at ht;exact hn _ _ ⟨hx.trans gY,e0,e1,e7,rfl,ht⟩
 ·rintro e h' ⟨hx,e0,e1,e7,e8,ht⟩ K' gG;rw [F.aH.aT];simp only [e0,e1,e7,e8,br,reduceAdd,reduceEqDiff,reduceIte,bf];rw [gG,F.aH.aF];rw [drop_of_length_le (dR _)] at ht;rw [ht] at hK;exact hK _ hx
theorem rP{x:AV}{l:List Rel}(hv:View bA 3 x l)(hl:l.length<=dx){g:FuncId}{a b:List AV}{p:Rel->Bool}
  (hp:∀ (v:Rel) (h':Heap),aX h h'->∀ (K:Out->Heap->Bool),(∀ EM,aX h' EM->K (.ret (.bool (p v))) EM=true)->Sem TP g (a++([.agg (bA v)]++b)) h' K)
  (hK:∀ h',aX h h'->K (.ret (.bool (l.any p))) h'=true):Sem TP 155 [x,.func g a b] h K:=by
 refine F.fI ?_;rw [F.fN];refine ag (nQ hv hl hp fun h' hx=>?_);simp only [br,reduceAdd,reduceEqDiff,reduceIte];rw [Cr];exact hK _ hx
def jH(s:ew)(i:Nat):Bool:=match s.aQ.l[i]? with
 |none=>true
 |some r=>jc s.size.toNat r&&!((s.aQ.l.take i).any fun q=>q.name==r.name)
def bY(s:ew):Bool:=decide (1<=s.size)&&(decide (s.size<=64)&&(decide (s.aQ.l.length<=8)&&xp (jH s) s.aQ.l.length))
theorem Du{s:ew}{r:Rel}(hr:s.aQ.l[i]?=some r):au (some 3) (.cS (s.aQ.l.flatMap bA) (i*3)) h=some (.agg (bA r)):=g8 fq hr
theorem Hw{b:Nat}{r v:Rel}(hb:h.get b=sC (bA r))(KT:b<h.next)(h':Heap)(hx:aX h h')(K:Out->Heap->Bool)(hK:∀ EM,aX h' EM->K (.ret (.bool (v.name==r.name))) EM=true) :
  Sem TP 156 ([]++([.agg (bA v)]++[.ptr b 0])) h' K:=by
 refine F.qo ?_;rw [F.rL];have dw:h'.get b=sC (bA r):=by rw [hx.get b KT];exact hb
 have gY:aX h' (Heap.alloc h' (.cells (bA v))):=aX.alloc _ _;have g0:(Heap.alloc h' (.cells (bA v))).get h'.next=sC (bA v):=ay _ _
 have g1:(Heap.alloc h' (.cells (bA v))).get b=sC (bA r):=by rw [gY.get b (Nat.lt_of_lt_of_le KT hx.next)];exact dw
 simp only [cc (iL v),cN];generalize (Heap.alloc h' (.cells (bA v)))=H at g0 g1 gY ⊢;simp only [br,reduceAdd,reduceEqDiff,reduceIte,ai g0,ai g1];rw [show (bA v)[0]?=some (.str v.name) from rfl,show (bA r)[0]?=some (.str r.name) from rfl];simp only [br,reduceAdd,reduceEqDiff,reduceIte];exact hK _ gY
theorem b8{s:ew}(hs:s.ok){h:Heap}{K:Out->Heap->Bool}(hK:K (.ret (.bool (bY s))) h=true):Sem TP 99 [.agg (ak s)] h K:=by
 refine Sem.data (r:=.bool (bY s)) ?_ (by simp [AV.bQ,AV.pure,dH]) hK;clear hK;refine F.tq ?_;rw [F.vH];have b0:(Heap.alloc Heap.empty (.cells (ak s))).get 0=sC (ak s):=ay _ _;have bn:1<=(Heap.alloc Heap.empty (.cells (ak s))).next:=dR _
 simp only [cc (cL s),cN,aV];generalize (Heap.alloc Heap.empty (.cells (ak s)))=H at b0 bn ⊢;have fin:∀ (b:Bool) (H:Heap),b=bY s->jD (.bool (bY s)) (.ret (.bool b)) H=true:=fun b H hb=>by rw [hb];exact dO rfl
 generalize jD (.bool (bY s))=K at fin ⊢;simp only [br,reduceAdd,reduceEqDiff,reduceIte,ai b0,ak];by_cases s1:s.size<1
 ·simp only [fS s1,aA];exact fin _ _ (by rw [bY,fB (by omega:¬ 1<=s.size),Bool.false_and])
 simp only [fB s1,ax];by_cases s2:64<s.size
 ·simp only [fS s2,aA];exact fin _ _ (by rw [bY,fB (by omega:¬ s.size<=64),Bool.false_and,Bool.and_false])
 simp only [fB s2,ax];by_cases s3:8<s.aQ.l.length
 ·simp only [fS (by omega:(8:Int)<(s.aQ.l.length:Int)),aA];exact fin _ _ (by rw [bY,fB (by omega:¬ s.aQ.l.length<=8),Bool.false_and,Bool.and_false,Bool.and_false])
 simp only [fB (by omega:¬ (8:Int)<(s.aQ.l.length:Int)),ax]
 replace fin:∀ (b:Bool) (H:Heap),b=xp (jH s) s.aQ.l.length->K (.ret (.bool b)) H=true:=fun b H hb=>fin b H (by
  rw [bY,fS (by omega:1<=s.size),fS (by omega:s.size<=64),fS (by omega:s.aQ.l.length<=8)];exact hb)
 obtain ⟨n,hn⟩:∃ n:Nat,s.size=(n:Int):=⟨s.size.toNat,by omega⟩
 have GY:s.size.toNat=n:=by omega
 refine aI 0 s.aQ.l.length (zero_le _) (fun i e h'=>h'.get 0=sC (ak s)/\1<=h'.next/\e 1 = .ptr 0 0/\e 20=BF s.aQ/\e 21=I6 (s.aQ.l.length:Int)/\e 22=I6 (i:Int)/\∀ j,j<i->jH s j=true) ⟨b0,bn,rfl,rfl,rfl,rfl,fun j hj=>by omega⟩ ?_ ?_
 ·rintro i e h' _ hi ⟨q0,qn,e1,NI,MD,GF,ht⟩ K' oU gG zy hp;have hv:s.aQ.l[i]?=some s.aQ.l[i]:=fc hi;generalize s.aQ.l[i]=r at hv;have JT:r.ok:=hs.2 r (iz hv);have tH:jH s i=(jc n r&&!((s.aQ.l.take i).any fun q=>q.name==r.name)):=by rw [jH,hv,GY]
  have bad:∀ (e:Env) (h:Heap),jH s i=false->e 2=bF->F.b8.cB K .ret (sM e 63 h)=true:=fun e h hb he=>by
   rw [F.b8.bh,he];exact fin _ _ (fu hi hb).symm
  obtain ⟨H,wM,g1,go,gn⟩:=eG (h:=h') (zs:=[.str [],I6 0,.aE]) (cs:=bA r) (n:=3) rfl rfl (iL r);have p0:H.get 0=sC (ak s):=by rw [go _ (by omega)];exact q0
  rw [F.b8.aT];simp only [e1,NI,MD,GF,br,reduceAdd,reduceEqDiff,reduceIte,bu hi,bt s.aQ hi,Du hv,wM,ai g1,bJ (fq r)];rw [show (bA r)[0]?=some (.str r.name) from rfl];simp only [br,reduceAdd,reduceEqDiff,reduceIte];refine ag (cH ?_);simp only [br,reduceAdd,reduceEqDiff,reduceIte]
  cases w1:eU r.name with
  |false=>
   simp only [Bool.not_false,aA];rw [zy];exact bad _ _ (by rw [tH,jc,w1];simp) rfl
  |true=>
  simp only [Bool.not_true,ax,br,reduceAdd,reduceEqDiff,reduceIte,ai g1];rw [show (bA r)[1]?=some (I6 r.arity) from rfl];simp only [br,reduceAdd,reduceEqDiff,reduceIte];by_cases w2:r.arity<0
  ·simp only [fS w2,aA];rw [zy];exact bad _ _ (by rw [tH,jc,fB (by omega:¬ 0<=r.arity)];simp) rfl
  simp only [fB w2,ax];by_cases w3:12<r.arity
  ·simp only [fS w3,aA];rw [zy];exact bad _ _ (by rw [tH,jc,fB (by omega:¬ r.arity<=12)];simp) rfl
  simp only [fB w3,ax,ai p0,br,reduceAdd,reduceEqDiff,reduceIte,e1];rw [show (ak s)[0]?=some (I6 s.size) from rfl];obtain ⟨k,hk⟩:∃ k:Nat,r.arity=(k:Int):=⟨r.arity.toNat,by omega⟩
  simp only [br,reduceAdd,reduceEqDiff,reduceIte,hn,hk];refine ag (cn (by omega) (by omega) (show k<=dx by unfold dx;omega) ?_);simp only [br,reduceAdd,reduceEqDiff,reduceIte]
  have Hy:jH s i=(decide (n ^ k<=4096)&&qu n k r.aP.l&&!((s.aQ.l.take i).any fun q=>q.name==r.name)):=by
   rw [tH,jc,w1,fS (by omega:0<=r.arity),fS (by omega:r.arity<=12),hk];simp
  by_cases w4:n ^ k<=4096
  ·simp only [Cp,if_pos w4,fB (by omega:¬ ((n ^ k:Nat):Int)<0),ax,br,reduceAdd,reduceEqDiff,reduceIte,ai p0,ai g1,bJ (fq r),e1];rw [show (ak s)[0]?=some (I6 s.size) from rfl];simp only [br,reduceAdd,reduceEqDiff,reduceIte,hn];refine ag (bK JT hk ?_);simp only [br,reduceAdd,reduceEqDiff,reduceIte]
   cases w5:qu n k r.aP.l with
   |false=>
    simp only [Bool.not_false,aA];rw [zy];exact bad _ _ (by rw [Hy,w5];simp) rfl
   |true=>
   simp only [Bool.not_true,ax,br,reduceAdd,reduceEqDiff,reduceIte,ai p0,e1];rw [show (ak s)[1]?=some (BF s.aQ) from rfl];obtain ⟨a,ha,NJ⟩:=Eh fq s.aQ (Nat.le_of_lt hi);simp only [br,reduceAdd,reduceEqDiff,reduceIte,ha];have hlt:(s.aQ.l.take i).length<=dx:=by rw [length_take];have:=hs.1;omega
   refine ag (rP (p:=fun q=>q.name==r.name) NJ hlt (fun v h2 gY K2 GD=>Hw g1 (by omega) h2 gY K2 GD) fun h2 gY=>?_);simp only [br,reduceAdd,reduceEqDiff,reduceIte]
   cases w6:(s.aQ.l.take i).any fun q=>q.name==r.name with
   |true=>
    simp only [aA];rw [zy];exact bad _ _ (by rw [Hy,w6];simp) rfl
   |false=>
    simp only [ax,aN hi hs.1,cN,GF];refine oU _ _ ⟨by rw [gY.get 0 (by omega)];exact p0,by have:=gY.next;omega,e1,NI,MD,rfl,fun j hj=>?_⟩;by_cases DT:j<i
    ·exact ht j DT
    ·obtain rfl:j=i:=by omega
     rw [Hy,w5,w6,fS w4];rfl
  ·simp only [Cp,if_neg w4,fS (by omega:(-1:Int)<0),aA];rw [zy];exact bad _ _ (by rw [Hy,fB w4];simp) rfl
 ·rintro e h' ⟨q0,qn,e1,NI,MD,GF,ht⟩ K' gG;rw [F.b8.aT];simp only [MD,GF,br,reduceAdd,reduceEqDiff,reduceIte,bf];rw [gG,F.b8.aF];exact fin _ _ (jl ht).symm
theorem A1{p:α->Bool}{l:List α}{a:α}(ha:l[i]?=some a)(ht:(l.take i).any p=false)(hp:p a=false):(l.take (i+1)).any p=false:=by
 rw [take_add_one,ha];simp [ht,hp]
theorem FZ{p:α->Bool}{l:List α}{a:α}(ha:l[i]?=some a)(hi:i<k)(hp:p a=true):(l.take k).any p=true:=by
 rw [List.any_eq_true];exact ⟨a,iz (by rw [getElem?_take_of_lt hi];exact ha),hp⟩
theorem qv{s:ew}{r:Rel}(hr:s.aQ.l[i]?=some r):au none (.cS (s.aQ.l.flatMap bA) (i*3)) h=some (.str r.name):=by
 have:=fK (h:=h) fq hr (k:=0) (by omega);rw [Nat.add_zero] at this;rw [this];rfl
theorem bq{s:ew}(hs:s.ok){h:Heap}{K:Out->Heap->Bool}(hK:K (.ret (.bool (bY s))) h=true):Sem TP 58 [.agg (ak s)] h K:=by
 refine Sem.data (r:=.bool (bY s)) ?_ (by simp [AV.bQ,AV.pure,dH]) hK;clear hK;refine F.tj ?_;rw [F.vE];have b0:(Heap.alloc Heap.empty (.cells (ak s))).get 0=sC (ak s):=ay _ _;simp only [cc (cL s),cN,aV];generalize (Heap.alloc Heap.empty (.cells (ak s)))=H at b0 ⊢;have fin:∀ (b:Bool),b=bY s->jD (.bool (bY s)) (.ret (.bool b)) H=true:=fun b hb=>by rw [hb];exact dO rfl
 generalize jD (.bool (bY s))=K at fin ⊢;have ls:au none (.ptr 0 0) H=some (I6 s.size):=by rw [ai b0];rfl
 have lr:au none (.ptr 0 (0+1)) H=some (BF s.aQ):=by rw [ai b0];rfl
 rw [Nat.zero_add] at lr;simp only [br,reduceAdd,reduceEqDiff,reduceIte,ls,lr];by_cases s1:s.size<1
 ·simp only [fS s1,aA];exact fin _ (by rw [bY,fB (by omega:¬ 1<=s.size),Bool.false_and])
 simp only [fB s1,ax];by_cases s2:64<s.size
 ·simp only [fS s2,aA];exact fin _ (by rw [bY,fB (by omega:¬ s.size<=64),Bool.false_and,Bool.and_false])
 simp only [fB s2,ax];by_cases s3:8<s.aQ.l.length
 ·simp only [fS (by omega:(8:Int)<(s.aQ.l.length:Int)),aA];exact fin _ (by rw [bY,fB (by omega:¬ s.aQ.l.length<=8),Bool.false_and,Bool.and_false,Bool.and_false])
 simp only [fB (by omega:¬ (8:Int)<(s.aQ.l.length:Int)),ax]
 replace fin:∀ (b:Bool),b=xp (jH s) s.aQ.l.length->K (.ret (.bool b)) H=true:=fun b hb=>fin b (by
  rw [bY,fS (by omega:1<=s.size),fS (by omega:s.size<=64),fS (by omega:s.aQ.l.length<=8)];exact hb)
 obtain ⟨n,hn⟩:∃ n:Nat,s.size=(n:Int):=⟨s.size.toNat,by omega⟩
 have GY:s.size.toNat=n:=by omega
 rw [hn] at ls;refine aI 0 s.aQ.l.length (zero_le _) (fun i e h'=>h'=H/\e 1 = .ptr 0 0/\e 3=I6 (i:Int)/\∀ j,j<i->jH s j=true) ⟨rfl,rfl,rfl,fun j hj=>by omega⟩ ?_ ?_
 ·rintro i e h' _ hi ⟨rfl,e1,e3,ht⟩ K' oU gG zy hp;have hv:s.aQ.l[i]?=some s.aQ.l[i]:=fc hi;generalize s.aQ.l[i]=r at hv;have JT:r.ok:=hs.2 r (iz hv);have tH:jH s i=(jc n r&&!((s.aQ.l.take i).any fun q=>q.name==r.name)):=by rw [jH,hv,GY]
  have bad:∀ (e:Env),jH s i=false->e 2=bF->F.bq.cB K .ret (sM e 53 h')=true:=fun e hb he=>by
   rw [F.bq.bh,he];exact fin _ (fu hi hb).symm
  rw [F.bq.aT];simp only [e1,e3,br,reduceAdd,reduceEqDiff,reduceIte,ls,lr,bu hi,bt s.aQ hi,Du hv];refine ag (c9 (by omega) (by omega) JT ?_);simp only [br,reduceAdd,reduceEqDiff,reduceIte]
  cases w1:jc n r with
  |false=>
   simp only [Bool.not_false,aA];rw [zy];exact bad _ (by rw [tH,w1,Bool.false_and]) rfl
  |true=>
  simp only [Bool.not_true,ax];refine aI 0 i (zero_le _) (fun k e h2=>h2=h'/\e 1 = .ptr 0 0/\e 3=I6 (i:Int)/\e 4=I6 (k:Int)/\((s.aQ.l.take k).any fun q=>q.name==r.name)=false) ⟨rfl,e1,e3,rfl,rfl⟩ ?_ ?_
  ·rintro k e h2 _ hk ⟨rfl,e1,e3,e4,Jp⟩ K2 A2 gY zQ Hz;have hki:k<s.aQ.l.length:=by omega
   have ME:s.aQ.l[k]?=some s.aQ.l[k]:=fc hki;generalize s.aQ.l[k]=q at ME;rw [F.bq.ff];simp only [e1,e3,e4,br,reduceAdd,reduceEqDiff,reduceIte,lr,bu hk,bt s.aQ hi,bt s.aQ hki,qv hv,qv ME]
   cases w2:q.name==r.name with
   |true=>
    simp only [aA];rw [zQ,F.bq.zl,zy];exact bad _ (by rw [tH,FZ ME hk w2];simp) rfl
   |false=>
    simp only [ax,aN hk (by have:=hs.1;omega),cN];exact A2 _ _ ⟨rfl,e1,e3,rfl,A1 ME Jp w2⟩
  ·rintro e h2 ⟨rfl,e1,e3,e4,Jp⟩ K2 gY;rw [F.bq.ff];simp only [e3,e4,br,reduceAdd,reduceEqDiff,reduceIte,bf];rw [gY,F.bq.dL];simp only [br,reduceAdd,reduceEqDiff,reduceIte,e3,aN hi hs.1];refine oU _ _ ⟨rfl,e1,rfl,fun j hj=>?_⟩;by_cases DT:j<i
   ·exact ht j DT
   ·obtain rfl:j=i:=by omega
    rw [tH,w1,Jp];rfl
 ·rintro e h' ⟨rfl,e1,e3,ht⟩ K' gG;rw [F.bq.aT];simp only [e1,e3,br,reduceAdd,reduceEqDiff,reduceIte,lr,bf];rw [gG,F.bq.aF];exact fin _ (jl ht).symm
def cQ(nm:bI)(q:Rel):Bool:=q.name==nm
def ic(nm:bI)(k:Int)(q:Rel):Bool:=(q.name==nm)&&decide (q.arity=k)
theorem cV{s:ew}(hs:s.ok){nm:bI}{h:Heap}{K:Out->Heap->Bool}(hK:K (.ret (I6 (fO (cQ nm) s.aQ.l))) h=true):Sem TP 85 [.agg (ak s),.str nm] h K:=by
 refine Sem.data (r:=I6 (fO (cQ nm) s.aQ.l)) ?_ (by simp [AV.bQ,AV.pure,dH]) hK;clear hK;refine F.vG ?_;rw [F.xg];have b0:(Heap.alloc Heap.empty (.cells (ak s))).get 0=sC (ak s):=ay _ _;simp only [cc (cL s),cN,aV];generalize (Heap.alloc Heap.empty (.cells (ak s)))=H at b0 ⊢;have fin:∀ b:Int,b=fO (cQ nm) s.aQ.l->jD (I6 (fO (cQ nm) s.aQ.l)) (.ret (I6 b)) H=true:=fun b hb=>by rw [hb];exact dO rfl
 have lr:au none (.ptr 0 1) H=some (BF s.aQ):=by rw [ai b0];rfl
 refine aI 0 s.aQ.l.length (zero_le _) (fun i e h'=>h'=H/\e 1 = .str nm/\e 2 = .ptr 0 0/\e 5=I6 (i:Int)/\fO (cQ nm) s.aQ.l=mL (cQ nm) (s.aQ.l.drop i) i) ⟨rfl,rfl,rfl,rfl,rfl⟩ ?_ ?_
 ·rintro i e h' _ hi ⟨rfl,e1,e2,e5,ht⟩ K' hn gG hr hp;have hv:s.aQ.l[i]?=some s.aQ.l[i]:=fc hi;generalize s.aQ.l[i]=r at hv;rw [A0 hv] at ht;rw [F.cV.aT];simp only [e1,e2,e5,br,reduceAdd,reduceEqDiff,reduceIte,lr,bu hi,bt s.aQ hi,qv hv]
  cases hq:r.name==nm with
  |true=>
   simp only [aA];rw [hr,F.cV.bh];rw [if_pos (show cQ nm r=true from hq)] at ht;simp only [lV,reduceEqDiff,reduceIte,e5];exact fin _ ht.symm
  |false=>
   simp only [ax,aN hi hs.1,cN];rw [if_neg (by rw [cQ,hq];decide)] at ht;exact hn _ _ ⟨rfl,e1,e2,rfl,ht⟩
 ·rintro e h' ⟨rfl,e1,e2,e5,ht⟩ K' gG;rw [F.cV.aT];simp only [e1,e2,e5,br,reduceAdd,reduceEqDiff,reduceIte,lr,bf];rw [gG,F.cV.aF];rw [drop_of_length_le (dR _)] at ht;exact fin _ ht.symm
theorem JU{b1 b2:Nat}{v:Rel}{nm:bI}{k:Int}(g1:h.get b1=sC [.str nm])(g2:h.get b2=sC [I6 k])(n1:b1<h.next)(n2:b2<h.next)(h':Heap)(hx:aX h h')(K:Out->Heap->Bool)(hK:∀ EM,aX h' EM->K (.ret (.bool (ic nm k v))) EM=true) :
  Sem TP 158 ([]++([.agg (bA v)]++[.ptr b1 0,.ptr b2 0])) h' K:=by
 refine F.rM ?_;rw [F.tG];have gY:aX h' (Heap.alloc h' (.cells (bA v))):=aX.alloc _ _;have g0:(Heap.alloc h' (.cells (bA v))).get h'.next=sC (bA v):=ay _ _
 have q1:(Heap.alloc h' (.cells (bA v))).get b1=sC [.str nm]:=by rw [gY.get b1 (Nat.lt_of_lt_of_le n1 hx.next),hx.get b1 n1];exact g1
 have q2:(Heap.alloc h' (.cells (bA v))).get b2=sC [I6 k]:=by rw [gY.get b2 (Nat.lt_of_lt_of_le n2 hx.next),hx.get b2 n2];exact g2
 simp only [cc (iL v),cN];generalize (Heap.alloc h' (.cells (bA v)))=H at g0 q1 q2 gY ⊢;simp only [br,reduceAdd,reduceEqDiff,reduceIte,ai g0,ai q1,ai q2];rw [show (bA v)[0]?=some (.str v.name) from rfl,show (bA v)[1]?=some (I6 v.arity) from rfl];simp only [br,reduceAdd,reduceEqDiff,reduceIte,b9];have:=hK _ gY;unfold ic at this
 cases hq:v.name==nm with
 |true=>simp only [aA];rw [hq,Bool.true_and] at this;exact this
 |false=>simp only [ax];rw [hq,Bool.false_and] at this;exact this
theorem oK{s:ew}(hs:s.ok){nm:bI}{k:Int}(hK:K (.ret (I6 (fO (ic nm k) s.aQ.l))) h=true):Sem TP 100 [.agg (ak s),.str nm,I6 k] h K:=by
 refine Sem.data (r:=I6 (fO (ic nm k) s.aQ.l)) ?_ (by simp [AV.bQ,AV.pure,dH]) hK;clear hK;refine F.vI ?_;rw [F.xj];simp only [cc (cL s),ue (x:=I6 _) rfl,ue (x:=.str _) rfl,cN,aV,Heap.aR];have g0:(Heap.alloc (Heap.alloc (Heap.alloc Heap.empty (.cells (ak s))) (.cells [.str nm])) (.cells [I6 k])).get 0=sC (ak s):=by simp [Heap.aD,aV]
 have g1:(Heap.alloc (Heap.alloc (Heap.alloc Heap.empty (.cells (ak s))) (.cells [.str nm])) (.cells [I6 k])).get 1=sC [.str nm]:=by simp [Heap.aD,aV]
 have g2:(Heap.alloc (Heap.alloc (Heap.alloc Heap.empty (.cells (ak s))) (.cells [.str nm])) (.cells [I6 k])).get 2=sC [I6 k]:=by simp [Heap.aD,aV]
 have gn:(Heap.alloc (Heap.alloc (Heap.alloc Heap.empty (.cells (ak s))) (.cells [.str nm])) (.cells [I6 k])).next=3:=rfl
 generalize (Heap.alloc (Heap.alloc (Heap.alloc Heap.empty (.cells (ak s))) (.cells [.str nm])) (.cells [I6 k]))=H at g0 g1 g2 gn ⊢;have lr:au none (.ptr 0 1) H=some (BF s.aQ):=by rw [ai g0];rfl
 simp only [br,reduceAdd,reduceEqDiff,reduceIte,lr];refine ag (nQ (FX fq s.aQ) hs.1 (p:=ic nm k) (fun v h2 gY K2 GD=>JU g1 g2 (by omega) (by omega) h2 gY K2 GD) fun h2 gY=>?_);simp only [br,reduceAdd,reduceEqDiff,reduceIte];exact dO rfl
end
end Go.AM