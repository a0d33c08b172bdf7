/- Parts of the proof. Conditions: none. -/
import Derived.Test.YtfdanacohcffmaaGreatKp18
set_option linter.unusedVariables false
namespace Go.AM
open List Nat Bool Option
open Go Go.Proofs
noncomputable section
variable {K:Out->Heap->Bool} {h:Heap} {J:AX->St->Bool} {e:Env} {a0 a1 a2 a3:AV}
noncomputable def F.cC.L0:=partOf (ag Tryz.f42) [1,1,0,1,0,0]
noncomputable def F.cC.cK:=LK 0 Tryz.f42 [1,1,1]
noncomputable def F.cC.L1:=partOf (ag Tryz.f42) [1,1,0,1,0,0,1,0,0,1,1,0,0]
noncomputable def F.cC.kg(J:AX->St->Bool):=(cE 2 (cE 1 (jG false (EV (partOf (ag Tryz.f42) [1,1,0,1,0,0,1,1])) J)))
noncomputable def F.cC.L2:=partOf (ag Tryz.f42) [1,1,0,1,0,0,1,0,0,1,1,0,0,1,0,0,1,1,1,0,0]
noncomputable def F.cC.xj(J:AX->St->Bool):=(cE 4 (cE 3 (jG false (EV (partOf (ag Tryz.f42) [1,1,0,1,0,0,1,0,0,1,1,0,0,1,1])) J)))
theorem F.cC.aP:EV F.cC.L0 (sM e 89 h) J=(aa (bK .slice (e 0) h) fun a=>aa (aF .lss (e 5) a) fun b=>let Q1:=(sL e [(8,e 5),(9,e 0),(10,a),(11,b)]);aq b (ou 2 (e 0) (e 5) 1 h fun g i c=>aa (bK .slice c h) fun d=>aa (aF .gtr d (I6 12)) fun f=>let Q2:=(sL Q1 [(14,e 0),(15,e 5),(16,g),(17,i),(18,c),(19,d),(20,f)]);aq f (J .ret (sM (cF Q2 2 bF) 89 h)) (bJ (EV F.cC.L1) (sM (cF Q2 6 (I6 0)) 89 h) (F.cC.kg J))) (J (.exit 0) (sM Q1 89 h))):=by kernel_rfl
theorem F.cC.aC:F.cC.cK K (.exit 0) (sM e 89 h)=(aa (aF .leq (e 4) (I6 20000)) fun a=>K (.ret a) h):=by kernel_rfl
theorem F.cC.bg:F.cC.cK K .ret (sM e 89 h)=(K (.ret (e 2)) h):=by kernel_rfl
theorem F.cC.cU:EV F.cC.L1 (sM e 89 h) J=(ou 2 (e 0) (e 5) 1 h fun w x d=>aa (bK .slice d h) fun f=>aa (aF .lss (e 6) f) fun g=>let Q1:=(sL e [(21,e 6),(22,e 0),(23,e 5),(24,w),(25,x),(26,d),(27,f),(28,g)]);aq g (ou 2 (e 0) (e 5) 1 h fun o p i=>ou 3 i (e 6) 2 h fun q r j=>aa (bK .slice j h) fun k=>aa (aF .add (e 3) k) fun a=>aa (aF .gtr a (I6 1500)) fun b=>let Q2:=(sL Q1 [(31,e 3),(32,e 0),(33,e 5),(34,o),(35,p),(36,i),(37,e 6),(38,q),(39,r),(40,j),(41,k),(42,a),(3,a),(43,a),(44,b),(45,b)]);aq b (J .ret (sM (sL Q2 [(45,bT),(46,bz),(45,bT),(47,bz),(45,bT),(48,bz),(45,bT),(49,bz),(45,bT),(50,bz),(45,bT),(51,bz),(45,bT),(52,bz),(45,bT),(53,bz),(45,bT),(54,bz),(45,bT),(55,bz),(45,bT),(56,bz),(57,bT),(2,bF)]) 89 h)) (ou 2 (e 0) (e 5) 1 h fun s t l=>ou 3 l (e 6) 0 h fun u v m=>aa (bK .str m h) fun n=>aa (aF .gtr n (I6 1000)) fun c=>let Q3:=(sL Q2 [(45,bF),(46,e 0),(45,bF),(47,e 5),(45,bF),(48,s),(45,bF),(49,t),(45,bF),(50,l),(45,bF),(51,e 6),(45,bF),(52,u),(45,bF),(53,v),(45,bF),(54,m),(45,bF),(55,n),(45,bF),(56,c),(57,c)]);aq c (J .ret (sM (cF Q3 2 bF) 89 h)) (bJ (EV F.cC.L2) (sM (cF Q3 7 (I6 0)) 89 h) (F.cC.xj J)))) (J (.exit 2) (sM Q1 89 h))):=by kernel_rfl
theorem F.cC.cm:F.cC.kg J (.exit 2) (sM e 89 h)=(aa (aF .add (e 5) (I6 1)) fun a=>J .normal (sM (sL e [(12,e 5),(13,a),(5,a)]) 89 h)):=by kernel_rfl
theorem F.cC.k7:F.cC.kg J .ret (sM e 89 h)=(J .ret (sM e 89 h)):=by kernel_rfl
theorem F.cC.lD:EV F.cC.L2 (sM e 89 h) J=(ou 2 (e 0) (e 5) 1 h fun m n a=>ou 3 a (e 6) 2 h fun o p b=>aa (bK .slice b h) fun c=>aa (aF .lss (e 7) c) fun d=>let Q1:=(sL e [(58,e 7),(59,e 0),(60,e 5),(61,m),(62,n),(63,a),(64,e 6),(65,o),(66,p),(67,b),(68,c),(69,d)]);aq d (ou 2 (e 0) (e 5) 1 h fun q r f=>ou 3 f (e 6) 2 h fun s t g=>il 1 g (e 7) h fun u i=>aa (bK .slice i h) fun j=>aa (aF .add (e 4) j) fun k=>aa (aF .add (e 7) (I6 1)) fun l=>J .normal (sM (sL Q1 [(72,e 4),(73,e 0),(74,e 5),(75,q),(76,r),(77,f),(78,e 6),(79,s),(80,t),(81,g),(82,e 7),(83,u),(84,i),(85,j),(86,k),(4,k),(70,e 7),(71,l),(7,l)]) 89 h)) (J (.exit 4) (sM Q1 89 h))):=by kernel_rfl
theorem F.cC.jo:F.cC.xj J (.exit 4) (sM e 89 h)=(aa (aF .add (e 6) (I6 1)) fun a=>J .normal (sM (sL e [(29,e 6),(30,a),(6,a)]) 89 h)):=by kernel_rfl
theorem F.Ms:EV (ag Tryz.f42) (sM (ay [a0]) 89 h) (RL Tryz.f42 K)=(bJ (EV F.cC.L0) (sM (sL (ay [a0]) [(2,bF),(3,I6 0),(4,I6 0),(5,I6 0)]) 89 h) (F.cC.cK K)):=by kernel_rfl
theorem F.JN(hh:EV (ag Tryz.f42) (sM (ay [a0]) 89 h) (RL Tryz.f42 K)=true):Sem TP 42 [a0] h K:=
 SB Tryz.func42 hh
noncomputable def F.cJ.L0:=partOf (ag Tryz.f66) [1,1,0,1,0,0]
noncomputable def F.cJ.cK:=LK 0 Tryz.f66 [1,1,1]
noncomputable def F.cJ.L1:=partOf (ag Tryz.f66) [1,1,0,1,0,0,1,0,0,1,1,0,0]
noncomputable def F.cJ.kg(J:AX->St->Bool):=(cE 2 (cE 1 (jG false (EV (partOf (ag Tryz.f66) [1,1,0,1,0,0,1,1])) J)))
theorem F.cJ.aP:EV F.cJ.L0 (sM e 53 h) J=(fl 1 (e 1) h fun m a=>aa (bK .slice a h) fun b=>aa (aF .lss (e 3) b) fun c=>let Q1:=(sL e [(19,e 3),(20,m),(21,a),(22,b),(23,c)]);aq c (fl 0 (e 1) h fun n d=>fl 1 (e 1) h fun o f=>aa (jw 3 f (e 3)) fun g=>aa (au (some 3) g h) fun i=>an TP 115 [d,i] h (bf (fun j k=>aa (mh .not j) fun l=>let Q2:=(sL Q1 [(26,n),(27,d),(28,o),(29,f),(30,e 3),(31,g),(32,i),(33,j),(34,l)]);aq l (J .ret (sM (cF Q2 2 bF) 53 k)) (bJ (EV F.cJ.L1) (sM (cF Q2 4 (I6 0)) 53 k) (F.cJ.kg J))) fF)) (J (.exit 0) (sM Q1 53 h))):=by kernel_rfl
theorem F.cJ.aC:F.cJ.cK K (.exit 0) (sM e 53 h)=(K (.ret bT) h):=by kernel_rfl
theorem F.cJ.bg:F.cJ.cK K .ret (sM e 53 h)=(K (.ret (e 2)) h):=by kernel_rfl
theorem F.cJ.cU:EV F.cJ.L1 (sM e 53 h) J=(aa (aF .lss (e 4) (e 3)) fun a=>let Q1:=(sL e [(35,e 4),(36,e 3),(37,a)]);aq a (fl 1 (e 1) h fun j b=>ou 3 b (e 4) 0 h fun k l c=>fl 1 (e 1) h fun m d=>ou 3 d (e 3) 0 h fun n o f=>aa (jC .string c f) fun g=>let Q2:=(sL Q1 [(40,j),(41,b),(42,e 4),(43,k),(44,l),(45,c),(46,m),(47,d),(48,e 3),(49,n),(50,o),(51,f),(52,g)]);aq g (J .ret (sM (cF Q2 2 bF) 53 h)) (aa (aF .add (e 4) (I6 1)) fun i=>J .normal (sM (sL Q2 [(38,e 4),(39,i),(4,i)]) 53 h))) (J (.exit 2) (sM Q1 53 h))):=by kernel_rfl
theorem F.cJ.cm:F.cJ.kg J (.exit 2) (sM e 53 h)=(aa (aF .add (e 3) (I6 1)) fun a=>J .normal (sM (sL e [(24,e 3),(25,a),(3,a)]) 53 h)):=by kernel_rfl
theorem F.cJ.k7:F.cJ.kg J .ret (sM e 53 h)=(J .ret (sM e 53 h)):=by kernel_rfl
theorem F.HO:EV (ag Tryz.f66) (sM (ay [a0]) 53 h) (RL Tryz.f66 K)=(aa (eG a0) fun a=>fl 0 (nP h) (hA h a) fun k f=>aa (aF .lss f (I6 1)) fun d=>aq d (K (.ret bF) (hA h a)) (fl 0 (nP h) (hA h a) fun l g=>aa (aF .gtr g (I6 64)) fun c=>aq c (K (.ret bF) (hA h a)) (fl 1 (nP h) (hA h a) fun m i=>aa (bK .slice i (hA h a)) fun j=>aa (aF .gtr j (I6 8)) fun b=>aq b (K (.ret bF) (hA h a)) (bJ (EV F.cJ.L0) (sM (sL (ay [a0]) [(1,nP h),(2,bF),(5,k),(6,f),(7,d),(8,d),(8,bF),(9,l),(8,bF),(10,g),(8,bF),(11,c),(12,c),(13,c),(13,bF),(14,m),(13,bF),(15,i),(13,bF),(16,j),(13,bF),(17,b),(18,b),(3,I6 0)]) 53 (hA h a)) (F.cJ.cK K))))):=by kernel_rfl
theorem F.FI(hh:EV (ag Tryz.f66) (sM (ay [a0]) 53 h) (RL Tryz.f66 K)=true):Sem TP 66 [a0] h K:=
 SB Tryz.func66 hh
noncomputable def F.gH.L0:=partOf (ag Tryz.f67) [1,0,1,0,0]
noncomputable def F.gH.cK:=LK 0 Tryz.f67 [1,1]
theorem F.gH.aP:EV F.gH.L0 (sM e 36 h) J=(aa (bK .slice (e 1) h) fun p=>aa (aF .lss (e 5) p) fun q=>let Q1:=(sL e [(7,e 5),(8,e 1),(9,p),(10,q)]);aq q (aa (au (some 2) (e 2) h) fun r=>ou 2 (e 1) (e 5) 0 h fun t u s=>an TP 69 [r,s] h (bf (fun b c=>aa (aF .lss b (I6 0)) fun j=>let Q2:=(sL Q1 [(13,r),(14,e 1),(15,e 5),(16,t),(17,u),(18,s),(19,b),(6,b),(20,b),(21,j),(22,j)]);aq j (J .ret (sM (sL Q2 [(22,bT),(23,bz),(22,bT),(24,bz),(22,bT),(25,bz),(22,bT),(26,bz),(22,bT),(27,bz),(22,bT),(28,bz),(22,bT),(29,bz),(22,bT),(30,bz),(22,bT),(31,bz),(22,bT),(32,bz),(22,bT),(33,bz),(22,bT),(34,bz),(35,bT),(4,bF)]) 36 c)) (fl 1 (e 2) c fun k d=>ou 3 d b 1 c fun l m f=>ou 2 (e 1) (e 5) 1 c fun n o g=>aa (qE (.int .i64) f g) fun a=>let Q3:=(sL Q2 [(22,bF),(23,k),(22,bF),(24,d),(22,bF),(25,b),(22,bF),(26,l),(22,bF),(27,m),(22,bF),(28,f),(22,bF),(29,e 1),(22,bF),(30,e 5),(22,bF),(31,n),(22,bF),(32,o),(22,bF),(33,g),(22,bF),(34,a),(35,a)]);aq a (J .ret (sM (cF Q3 4 bF) 36 c)) (aa (aF .add (e 5) (I6 1)) fun i=>J .normal (sM (sL Q3 [(11,e 5),(12,i),(5,i)]) 36 c)))) fF)) (J (.exit 0) (sM Q1 36 h))):=by kernel_rfl
theorem F.gH.aC:F.gH.cK K (.exit 0) (sM e 36 h)=(K (.ret bT) h):=by kernel_rfl
theorem F.gH.bg:F.gH.cK K .ret (sM e 36 h)=(K (.ret (e 4)) h):=by kernel_rfl
theorem F.JO:EV (ag Tryz.f67) (sM (ay [a0,a1]) 36 h) (RL Tryz.f67 K)=(aa (eG a0) fun a=>bJ (EV F.gH.L0) (sM (sL (ay [a0,a1]) [(2,nP h),(4,bF),(5,I6 0)]) 36 (hA h a)) (F.gH.cK K)):=by kernel_rfl
theorem F.HP(hh:EV (ag Tryz.f67) (sM (ay [a0,a1]) 36 h) (RL Tryz.f67 K)=true):Sem TP 67 [a0,a1] h K:=
 SB Tryz.func67 hh
theorem F.wQ:EV (ag Tryz.f122) (sM (ay [a0]) 8 h) (RL Tryz.f122 K)=(aa (eG a0) fun a=>aa (au (some 2) (nP h) (hA h a)) fun c=>an TP 160 [c] (hA h a) (bf (fun d b=>aa (aJ d) fun f=>fl 2 f b fun k g=>K (.ret g) b) (pK K))):=by kernel_rfl
theorem F.vh(hh:EV (ag Tryz.f122) (sM (ay [a0]) 8 h) (RL Tryz.f122 K)=true):Sem TP 122 [a0] h K:=
 SB Tryz.func122 hh
noncomputable def F.jV.L0:=partOf (ag Tryz.f160) [1,1,0,1,0,0]
noncomputable def F.jV.cK:=LK 0 Tryz.f160 [1,1,1]
theorem F.jV.aP:EV F.jV.L0 (sM e 50 h) J=(fl 1 (e 1) h fun N M=>aa (bK .slice M h) fun c=>aa (aF .lss (e 4) c) fun d=>let Q1:=(sL e [(12,e 4),(13,N),(14,M),(15,c),(16,d)]);aq d (aa (aJ (e 3)) fun f=>fl 2 f h fun g b=>fl 0 (e 1) h fun u i=>fl 1 (e 1) h fun v j=>ou 3 j (e 4) 0 h fun w x k=>fl 1 (e 1) h fun y l=>ou 3 l (e 4) 1 h fun z A m=>fl 1 (e 1) h fun B n=>ou 3 n (e 4) 2 h fun C D o=>an TP 183 [i,k,m,o] h (bf (fun p a=>if ((aa (au none g a) fun E=>AV.beq E b)&&true)=true then (aa (eN [(.str []),(I6 0),.ai] [(0,3)] [p]) fun G=>cG (bB 3 48 b (.slice (Heap.next a) 0 1 3) (hA a G)) fun q I=>aa (aJ (e 3)) fun r=>aa (ja 2 r) fun s=>aa (aS 1 s q I) fun L=>aa (aF .add (e 4) (I6 1)) fun t=>J .normal (sM (sL Q1 [(19,e 3),(20,e 3),(21,f),(22,g),(23,b),(24,u),(25,i),(26,v),(27,j),(28,e 4),(29,w),(30,x),(31,k),(32,y),(33,l),(34,e 4),(35,z),(36,A),(37,m),(38,B),(39,n),(40,e 4),(41,C),(42,D),(43,o),(44,p),(45,.slice (Heap.next a) 0 1 3),(46,q),(47,r),(48,s),(17,e 4),(18,t),(4,t)]) 50 L)) else false) fF)) (J (.exit 0) (sM Q1 50 h))):=by kernel_rfl
theorem F.jV.aC:F.jV.cK K (.exit 0) (sM e 50 h)=(K (.ret (e 3)) h):=by kernel_rfl
theorem F.EW:EV (ag Tryz.f160) (sM (ay [a0]) 50 h) (RL Tryz.f160 K)=(aa (eG a0) fun a=>fl 0 (nP h) (hA h a) fun g b=>fl 1 (nP h) (hA h a) fun i c=>aa (bK .slice c (hA h a)) fun d=>aa (iP [(I6 0),(I6 0),.ai,.ai,.ai,bF] [(0,1),(1,1)] [b,d]) fun f=>aa (eG f) fun j=>bJ (EV F.jV.L0) (sM (sL (ay [a0]) [(1,nP h),(2,.eZ),(5,g),(6,b),(7,i),(8,c),(9,d),(10,f),(11,.ptr (Heap.next (hA h a)) 0),(3,.ptr (Heap.next (hA h a)) 0),(4,I6 0)]) 50 (hA (hA h a) j)) (F.jV.cK K)):=by kernel_rfl
theorem F.CC(hh:EV (ag Tryz.f160) (sM (ay [a0]) 50 h) (RL Tryz.f160 K)=true):Sem TP 160 [a0] h K:=
 SB Tryz.func160 hh
noncomputable def F.ez.L0:=partOf (ag Tryz.f183) [1,1,0,1,0,0]
noncomputable def F.ez.cK:=LK 0 Tryz.f183 [1,1,1]
theorem F.ez.aP:EV F.ez.L0 (sM e 34 h) J=(aa (bK .slice (e 3) h) fun m=>aa (aF .lss (e 10) m) fun n=>let Q1:=(sL e [(18,e 10),(19,e 3),(20,m),(21,n)]);aq n (fl 2 (e 9) h fun b a=>il 1 (e 3) (e 10) h fun j c=>an TP 191 [(e 0),c] h (bf (fun d f=>if ((aa (au none b f) fun k=>AV.beq k a)&&true)=true then (aa (jw 1 a d) fun g=>aa (aS 1 g bT f) fun l=>aa (aF .add (e 10) (I6 1)) fun i=>J .normal (sM (sL Q1 [(24,b),(25,a),(26,e 0),(27,e 3),(28,e 10),(29,j),(30,c),(31,d),(32,g),(22,e 10),(23,i),(10,i)]) 34 l)) else false) fF)) (J (.exit 0) (sM Q1 34 h))):=by kernel_rfl
theorem F.ez.aC:F.ez.cK K (.exit 0) (sM e 34 h)=(aa (au (some 3) (e 9) h) fun a=>aa (aS 3 (e 8) a h) fun b=>aa (dz TP (sM (cF e 33 a) 34 b) Tryz.f183.results.toList) fun c=>K (.ret (oneOf c)) b):=by kernel_rfl
theorem F.vi:EV (ag Tryz.f183) (sM (ay [a0,a1,a2,a3]) 34 h) (RL Tryz.f183 K)=(an TP 155 [a0,a2] (hA h [(.str []),(I6 0),.ai]) (bf (fun a f=>cG (gE 1 1 [bF] a a f) fun c b=>aa (iP [(.str []),(I6 0),.ai] [(0,1),(1,1),(2,1)] [a1,a2,c]) fun d=>aa (aS 3 (nP b) d (hA b [(.str []),(I6 0),.ai])) fun g=>bJ (EV F.ez.L0) (sM (sL (ay [a0,a1,a2,a3]) [(8,nP h),(11,a1),(12,a2),(13,a0),(14,a2),(15,a),(16,c),(17,d),(9,nP b),(10,I6 0)]) 34 g) (F.ez.cK K)) (pK K))):=by kernel_rfl
theorem F.uk(hh:EV (ag Tryz.f183) (sM (ay [a0,a1,a2,a3]) 34 h) (RL Tryz.f183 K)=true):Sem TP 183 [a0,a1,a2,a3] h K:=
 SB Tryz.func183 hh
noncomputable def F.jd.L0:=partOf (ag Tryz.f191) [1,1,0,1,0,0]
noncomputable def F.jd.cK:=LK 0 Tryz.f191 [1,1,1]
theorem F.jd.aP:EV F.jd.L0 (sM e 22 h) J=(aa (bK .slice (e 1) h) fun a=>aa (aF .lss (e 6) a) fun b=>let Q1:=(sL e [(7,e 6),(8,e 1),(9,a),(10,b)]);aq b (aa (aF .mul (e 5) (e 0)) fun c=>il 1 (e 1) (e 6) h fun i d=>aa (aF .add c d) fun f=>aa (aF .add (e 6) (I6 1)) fun g=>J .normal (sM (sL Q1 [(13,e 5),(14,e 0),(15,c),(16,e 1),(17,e 6),(18,i),(19,d),(20,f),(5,f),(11,e 6),(12,g),(6,g)]) 22 h)) (J (.exit 0) (sM Q1 22 h))):=by kernel_rfl
theorem F.jd.aC:F.jd.cK K (.exit 0) (sM e 22 h)=(K (.ret (e 5)) h):=by kernel_rfl
theorem F.JP:EV (ag Tryz.f191) (sM (ay [a0,a1]) 22 h) (RL Tryz.f191 K)=(bJ (EV F.jd.L0) (sM (sL (ay [a0,a1]) [(4,I6 0),(5,I6 0),(6,I6 0)]) 22 h) (F.jd.cK K)):=by kernel_rfl
theorem F.HQ(hh:EV (ag Tryz.f191) (sM (ay [a0,a1]) 22 h) (RL Tryz.f191 K)=true):Sem TP 191 [a0,a1] h K:=
 SB Tryz.func191 hh
noncomputable def F.fM.L0:=partOf (ag Tryz.f69) [1,0,1,0,0]
noncomputable def F.fM.cK:=LK 0 Tryz.f69 [1,1]
theorem F.fM.aP:EV F.fM.L0 (sM e 22 h) J=(fl 1 (e 2) h fun j c=>aa (bK .slice c h) fun d=>aa (aF .lss (e 5) d) fun f=>let Q1:=(sL e [(6,e 5),(7,j),(8,c),(9,d),(10,f)]);aq f (fl 1 (e 2) h fun k g=>ou 3 g (e 5) 0 h fun l m i=>aa (jC .string i (e 1)) fun a=>let Q2:=(sL Q1 [(13,k),(14,g),(15,e 5),(16,l),(17,m),(18,i),(19,e 1),(20,a)]);aq a (J .ret (sM (sL Q2 [(21,e 5),(4,e 5)]) 22 h)) (aa (aF .add (e 5) (I6 1)) fun b=>J .normal (sM (sL Q2 [(11,e 5),(12,b),(5,b)]) 22 h))) (J (.exit 0) (sM Q1 22 h))):=by kernel_rfl
theorem F.fM.aC:F.fM.cK K (.exit 0) (sM e 22 h)=(K (.ret (I6 (-1))) h):=by kernel_rfl
theorem F.fM.bg:F.fM.cK K .ret (sM e 22 h)=(K (.ret (e 4)) h):=by kernel_rfl
theorem F.JQ:EV (ag Tryz.f69) (sM (ay [a0,a1]) 22 h) (RL Tryz.f69 K)=(aa (eG a0) fun a=>bJ (EV F.fM.L0) (sM (sL (ay [a0,a1]) [(2,nP h),(4,I6 0),(5,I6 0)]) 22 (hA h a)) (F.fM.cK K)):=by kernel_rfl
theorem F.HR(hh:EV (ag Tryz.f69) (sM (ay [a0,a1]) 22 h) (RL Tryz.f69 K)=true):Sem TP 69 [a0,a1] h K:=
 SB Tryz.func69 hh
noncomputable def F.je.L0:=partOf (ag Tryz.f155) [1,1,0,1,0,0]
noncomputable def F.je.cK:=LK 0 Tryz.f155 [1,1,1]
theorem F.je.aP:EV F.je.L0 (sM e 20 h) J=(aa (aF .lss (e 6) (e 1)) fun a=>let Q1:=(sL e [(7,e 6),(8,e 1),(9,a),(10,a)]);aq a (aa (aF .leq (e 5) (I6 4096)) fun b=>let Q2:=(sL Q1 [(10,bT),(11,e 5),(10,bT),(12,b),(13,b)]);aq b (aa (aF .mul (e 5) (e 0)) fun c=>aa (aF .add (e 6) (I6 1)) fun d=>J .normal (sM (sL Q2 [(16,e 5),(17,e 0),(18,c),(5,c),(14,e 6),(15,d),(6,d)]) 20 h)) (J (.exit 0) (sM Q2 20 h))) (J (.exit 0) (sM (sL Q1 [(10,bF),(11,bz),(10,bF),(12,bz),(13,bF)]) 20 h))):=by kernel_rfl
theorem F.je.aC:F.je.cK K (.exit 0) (sM e 20 h)=(K (.ret (e 5)) h):=by kernel_rfl
theorem F.Mt:EV (ag Tryz.f155) (sM (ay [a0,a1]) 20 h) (RL Tryz.f155 K)=(bJ (EV F.je.L0) (sM (sL (ay [a0,a1]) [(4,I6 0),(5,I6 1),(6,I6 0)]) 20 h) (F.je.cK K)):=by kernel_rfl
theorem F.JR(hh:EV (ag Tryz.f155) (sM (ay [a0,a1]) 20 h) (RL Tryz.f155 K)=true):Sem TP 155 [a0,a1] h K:=
 SB Tryz.func155 hh
noncomputable def F.eF.L0:=partOf (ag Tryz.f64) [1,1,0,1,0,0]
noncomputable def F.eF.cK:=LK 0 Tryz.f64 [1,1,1]
theorem F.eF.aP:EV F.eF.L0 (sM e 63 h) J=(aa (aF .lss (e 22) (e 21)) fun t=>let Q1:=(cF e 23 t);aq t (aa (jw 3 (e 20) (e 22)) fun g=>aa (au (some 3) g h) fun i=>aa (aS 3 (nP h) i (hA h [(.str []),(I6 0),.ai])) fun u=>fl 0 (nP h) u fun v j=>an TP 107 [j] u (bf (fun w a=>aa (mh .not w) fun k=>let Q2:=(sL Q1 [(24,e 22),(25,g),(26,i),(4,nP h),(3,e 22),(27,v),(28,j),(29,w),(30,k),(31,k)]);aq k (J .ret (sM (sL Q2 [(31,bT),(32,bz),(31,bT),(33,bz),(31,bT),(34,bz),(35,bT),(36,bT),(36,bT),(37,bz),(36,bT),(38,bz),(36,bT),(39,bz),(40,bT),(41,bT),(41,bT),(42,bz),(41,bT),(43,bz),(41,bT),(44,bz),(41,bT),(45,bz),(41,bT),(46,bz),(41,bT),(47,bz),(48,bT),(49,bT),(49,bT),(50,bz),(49,bT),(51,bz),(49,bT),(52,bz),(49,bT),(53,bz),(49,bT),(54,bz),(55,bT),(2,bF)]) 63 a)) (fl 1 (nP h) a fun M x=>aa (aF .lss x (I6 0)) fun b=>let Q3:=(sL Q2 [(31,bF),(32,M),(31,bF),(33,x),(31,bF),(34,b),(35,b),(36,b)]);aq b (J .ret (sM (sL Q3 [(36,bT),(37,bz),(36,bT),(38,bz),(36,bT),(39,bz),(40,bT),(41,bT),(41,bT),(42,bz),(41,bT),(43,bz),(41,bT),(44,bz),(41,bT),(45,bz),(41,bT),(46,bz),(41,bT),(47,bz),(48,bT),(49,bT),(49,bT),(50,bz),(49,bT),(51,bz),(49,bT),(52,bz),(49,bT),(53,bz),(49,bT),(54,bz),(55,bT),(2,bF)]) 63 a)) (fl 1 (nP h) a fun N y=>aa (aF .gtr y (I6 12)) fun c=>let Q4:=(sL Q3 [(36,bF),(37,N),(36,bF),(38,y),(36,bF),(39,c),(40,c),(41,c)]);aq c (J .ret (sM (sL Q4 [(41,bT),(42,bz),(41,bT),(43,bz),(41,bT),(44,bz),(41,bT),(45,bz),(41,bT),(46,bz),(41,bT),(47,bz),(48,bT),(49,bT),(49,bT),(50,bz),(49,bT),(51,bz),(49,bT),(52,bz),(49,bT),(53,bz),(49,bT),(54,bz),(55,bT),(2,bF)]) 63 a)) (fl 0 (e 1) a fun z l=>fl 1 (nP h) a fun A m=>an TP 108 [l,m,(I6 4096)] a (bf (fun B d=>aa (aF .lss B (I6 0)) fun f=>let Q5:=(sL Q4 [(41,bF),(42,z),(41,bF),(43,l),(41,bF),(44,A),(41,bF),(45,m),(41,bF),(46,B),(41,bF),(47,f),(48,f),(49,f)]);aq f (J .ret (sM (sL Q5 [(49,bT),(50,bz),(49,bT),(51,bz),(49,bT),(52,bz),(49,bT),(53,bz),(49,bT),(54,bz),(55,bT),(2,bF)]) 63 d)) (fl 0 (e 1) d fun C n=>aa (au (some 3) (nP h) d) fun o=>an TP 109 [n,o] d (bf (fun D p=>aa (mh .not D) fun q=>let Q6:=(sL Q5 [(49,bF),(50,C),(49,bF),(51,n),(49,bF),(52,o),(49,bF),(53,D),(49,bF),(54,q),(55,q)]);aq q (J .ret (sM (cF Q6 2 bF) 63 p)) (fl 1 (e 1) p fun E r=>aa (fR (some 3) r none (some (e 22))) fun s=>an TP 110 [s,(.func 111 [] [(nP h)])] p (bf (fun G I=>let Q7:=(sL Q6 [(56,E),(57,r),(58,e 22),(59,s),(60,.func 111 [] [(nP h)]),(61,G)]);aq G (J .ret (sM (cF Q7 2 bF) 63 I)) (aa (aF .add (e 22) (I6 1)) fun L=>J .normal (sM (sL Q7 [(62,L),(22,L)]) 63 I))) (pS J (sL Q6 [(56,E),(57,r),(58,e 22),(59,s),(60,.func 111 [] [(nP h)])]) 63)))) (pS J (sL Q5 [(49,bF),(50,C),(49,bF),(51,n),(49,bF),(52,o),(49,bF)]) 63)))) (pS J (sL Q4 [(41,bF),(42,z),(41,bF),(43,l),(41,bF),(44,A),(41,bF),(45,m),(41,bF)]) 63)))))) (pS J (sL Q1 [(24,e 22),(25,g),(26,i),(4,nP h),(3,e 22),(27,v),(28,j)]) 63))) (J (.exit 0) (sM Q1 63 h))):=by kernel_rfl
theorem F.eF.aC:F.eF.cK K (.exit 0) (sM e 63 h)=(K (.ret bT) h):=by kernel_rfl
theorem F.eF.bg:F.eF.cK K .ret (sM e 63 h)=(K (.ret (e 2)) h):=by kernel_rfl
theorem F.HS:EV (ag Tryz.f64) (sM (ay [a0]) 63 h) (RL Tryz.f64 K)=(aa (eG a0) fun a=>fl 0 (nP h) (hA h a) fun n j=>aa (aF .lss j (I6 1)) fun f=>aq f (K (.ret bF) (hA h a)) (fl 0 (nP h) (hA h a) fun o k=>aa (aF .gtr k (I6 64)) fun d=>aq d (K (.ret bF) (hA h a)) (fl 1 (nP h) (hA h a) fun p l=>aa (bK .slice l (hA h a)) fun m=>aa (aF .gtr m (I6 8)) fun b=>aq b (K (.ret bF) (hA h a)) (fl 1 (nP h) (hA h a) fun g c=>aa (bK .slice c (hA h a)) fun i=>bJ (EV F.eF.L0) (sM (sL (ay [a0]) [(1,nP h),(2,bF),(5,n),(6,j),(7,f),(8,f),(8,bF),(9,o),(8,bF),(10,k),(8,bF),(11,d),(12,d),(13,d),(13,bF),(14,p),(13,bF),(15,l),(13,bF),(16,m),(13,bF),(17,b),(18,b),(19,g),(20,c),(21,i),(22,I6 0)]) 63 (hA h a)) (F.eF.cK K))))):=by kernel_rfl
theorem F.FJ(hh:EV (ag Tryz.f64) (sM (ay [a0]) 63 h) (RL Tryz.f64 K)=true):Sem TP 64 [a0] h K:=
 SB Tryz.func64 hh
theorem F.JS:EV (ag Tryz.f53) (sM (ay [a0,a1,a2]) 11 h) (RL Tryz.f53 K)=(aa (eG a0) fun a=>aa (eG a1) fun b=>aa (eG a2) fun c=>fl 1 (nP h) (hA (hA (hA h a) b) c) fun k d=>an TP 76 [d,(.func 94 [] [(.ptr (Heap.next (hA h a)) 0),(.ptr (Heap.next (hA (hA h a) b)) 0)])] (hA (hA (hA h a) b) c) (bf (rK K) (pK K))):=by kernel_rfl
theorem F.HT(hh:EV (ag Tryz.f53) (sM (ay [a0,a1,a2]) 11 h) (RL Tryz.f53 K)=true):Sem TP 53 [a0,a1,a2] h K:=
 SB Tryz.func53 hh
noncomputable def F.bQ.L0:=partOf (ag Tryz.f55) [1,0,1,0,0]
noncomputable def F.bQ.cK:=LK 0 Tryz.f55 [1,1]
theorem F.bQ.aP:EV F.bQ.L0 (sM e 36 h) J=(aa (aF .lss (e 11) (e 10)) fun j=>let Q1:=(cF e 12 j);aq j (il 1 (e 9) (e 11) h fun o c=>aa (bK .slice (e 1) h) fun k=>aa (aF .geq (e 11) k) fun l=>let Q2:=(sL Q1 [(13,e 11),(14,o),(15,c),(5,e 11),(6,c),(16,e 11),(17,e 1),(18,k),(19,l)]);aq l (J .ret (sM (cF Q2 4 (I6 1)) 36 h)) (il 1 (e 1) (e 11) h fun m a=>an TP 95 [c,a] h (bf (fun b n=>aa (qE (.int .i64) b (I6 0)) fun d=>let Q3:=(sL Q2 [(20,e 1),(21,e 11),(22,m),(23,a),(7,a),(24,c),(25,a),(26,b),(8,b),(27,b),(28,d)]);aq d (J .ret (sM (sL Q3 [(29,b),(4,b)]) 36 n)) (aa (aF .add (e 11) (I6 1)) fun f=>J .normal (sM (sL Q3 [(30,f),(11,f)]) 36 n))) (pS J (sL Q2 [(20,e 1),(21,e 11),(22,m),(23,a),(7,a),(24,c),(25,a)]) 36)))) (J (.exit 0) (sM Q1 36 h))):=by kernel_rfl
theorem F.bQ.aC:F.bQ.cK K (.exit 0) (sM e 36 h)=(aa (bK .slice (e 0) h) fun a=>aa (bK .slice (e 1) h) fun b=>aa (aF .lss a b) fun c=>aq c (K (.ret (I6 (-1))) h) (K (.ret (I6 0)) h)):=by kernel_rfl
theorem F.bQ.bg:F.bQ.cK K .ret (sM e 36 h)=(K (.ret (e 4)) h):=by kernel_rfl
theorem F.mQ:EV (ag Tryz.f55) (sM (ay [a0,a1]) 36 h) (RL Tryz.f55 K)=(aa (bK .slice a0 h) fun a=>bJ (EV F.bQ.L0) (sM (sL (ay [a0,a1]) [(4,I6 0),(9,a0),(10,a),(11,I6 0)]) 36 h) (F.bQ.cK K)):=by kernel_rfl
theorem F.mw(hh:EV (ag Tryz.f55) (sM (ay [a0,a1]) 36 h) (RL Tryz.f55 K)=true):Sem TP 55 [a0,a1] h K:=
 SB Tryz.func55 hh
theorem F.CD:EV (ag Tryz.f52) (sM (ay [a0,a1]) 9 h) (RL Tryz.f52 K)=(aa (eG a0) fun a=>an TP 47 [a1,(.func 93 [] [(nP h)])] (hA h a) (bf (fun b c=>aa (mh .not b) fun d=>K (.ret d) c) (pK K))):=by kernel_rfl
theorem F.Bt(hh:EV (ag Tryz.f52) (sM (ay [a0,a1]) 9 h) (RL Tryz.f52 K)=true):Sem TP 52 [a0,a1] h K:=
 SB Tryz.func52 hh
theorem F.HU:EV (ag Tryz.f99) (sM (ay [a0,a1]) 27 h) (RL Tryz.f99 K)=(aa (aF .lss a0 (I6 1)) fun c=>aq c (K (.ret (.tuple [(I6 0),(I6 2)])) h) (aa (aF .gtr a0 (I6 64)) fun d=>aq d (K (.ret (.tuple [(I6 0),(I6 2)])) h) (aa (aF .lss a1 (I6 0)) fun f=>aq f (K (.ret (.tuple [(I6 0),(I6 2)])) h) (aa (aF .gtr a1 (I6 12)) fun g=>aq g (K (.ret (.tuple [(I6 0),(I6 2)])) h) (an TP 108 [a0,a1,(I6 4096)] h (bf (fun a b=>aa (aF .lss a (I6 0)) fun i=>aq i (K (.ret (.tuple [(I6 0),(I6 5)])) b) (K (.ret (.tuple [a,(I6 0)])) b)) (pK K))))))):=by kernel_rfl
theorem F.FK(hh:EV (ag Tryz.f99) (sM (ay [a0,a1]) 27 h) (RL Tryz.f99 K)=true):Sem TP 99 [a0,a1] h K:=
 SB Tryz.func99 hh
noncomputable def F.iF.L0:=partOf (ag Tryz.f115) [1,1,0,1,0,0]
noncomputable def F.iF.cK:=LK 0 Tryz.f115 [1,1,1]
theorem F.iF.aP:EV F.iF.L0 (sM e 72 h) J=(fl 2 (e 3) h fun A g=>aa (bK .slice g h) fun i=>aa (aF .lss (e 5) i) fun j=>let Q1:=(sL e [(27,e 5),(28,A),(29,g),(30,i),(31,j)]);aq j (fl 2 (e 3) h fun B k=>il 1 k (e 5) h fun C l=>aa (bK .slice l h) fun m=>fl 1 (e 3) h fun D n=>aa (qE (.int .i64) m n) fun d=>let Q2:=(sL Q1 [(34,B),(35,k),(36,e 5),(37,C),(38,l),(39,m),(40,D),(41,n),(42,d),(43,d)]);aq d (J .ret (sM (sL Q2 [(43,bT),(44,bz),(43,bT),(45,bz),(43,bT),(46,bz),(43,bT),(47,bz),(43,bT),(48,bz),(43,bT),(49,bz),(43,bT),(50,bz),(43,bT),(51,bz),(52,bT),(53,bT),(53,bT),(54,bz),(53,bT),(55,bz),(53,bT),(56,bz),(57,bz),(58,bz),(59,bz),(60,bz),(61,bz),(62,bz),(63,bz),(64,bz),(65,bz),(66,bz),(67,bz),(68,bz),(69,bz),(53,bT),(70,bz),(71,bT),(4,bF)]) 72 h)) (fl 2 (e 3) h fun E o=>il 1 o (e 5) h fun G p=>an TP 125 [(e 0),p] h (bf (fun q a=>aa (mh .not q) fun b=>let Q3:=(sL Q2 [(43,bF),(44,e 0),(43,bF),(45,E),(43,bF),(46,o),(43,bF),(47,e 5),(43,bF),(48,G),(43,bF),(49,p),(43,bF),(50,q),(43,bF),(51,b),(52,b),(53,b)]);aq b (J .ret (sM (sL Q3 [(53,bT),(54,bz),(53,bT),(55,bz),(53,bT),(56,bz),(57,bz),(58,bz),(59,bz),(60,bz),(61,bz),(62,bz),(63,bz),(64,bz),(65,bz),(66,bz),(67,bz),(68,bz),(69,bz),(53,bT),(70,bz),(71,bT),(4,bF)]) 72 a)) (aa (aF .gtr (e 5) (I6 0)) fun f=>let Q4:=(sL Q3 [(53,bF),(54,e 5),(53,bF),(55,f),(53,bF),(56,f)]);aq f (fl 2 (e 3) a fun I r=>aa (aF .sub (e 5) (I6 1)) fun s=>il 1 r s a fun L t=>fl 2 (e 3) a fun M u=>il 1 u (e 5) a fun N v=>an TP 156 [t,v] a (bf (fun w x=>aa (mh .not w) fun c=>let Q5:=(sL Q4 [(56,bT),(57,I),(56,bT),(58,r),(56,bT),(59,e 5),(56,bT),(60,s),(56,bT),(61,L),(56,bT),(62,t),(56,bT),(63,M),(56,bT),(64,u),(56,bT),(65,e 5),(56,bT),(66,N),(56,bT),(67,v),(56,bT),(68,w),(56,bT),(69,c),(53,bF),(70,c),(71,c)]);aq c (J .ret (sM (cF Q5 4 bF) 72 x)) (aa (aF .add (e 5) (I6 1)) fun y=>J .normal (sM (sL Q5 [(32,e 5),(33,y),(5,y)]) 72 x))) fF)) (aa (aF .add (e 5) (I6 1)) fun z=>J .normal (sM (sL Q4 [(56,bF),(57,bz),(56,bF),(58,bz),(56,bF),(59,bz),(56,bF),(60,bz),(56,bF),(61,bz),(56,bF),(62,bz),(56,bF),(63,bz),(56,bF),(64,bz),(56,bF),(65,bz),(56,bF),(66,bz),(56,bF),(67,bz),(56,bF),(68,bz),(56,bF),(69,bz),(53,bF),(70,bF),(71,bF),(32,e 5),(33,z),(5,z)]) 72 a)))) fF))) (J (.exit 0) (sM Q1 72 h))):=by kernel_rfl
theorem F.iF.aC:F.iF.cK K (.exit 0) (sM e 72 h)=(K (.ret bT) h):=by kernel_rfl
theorem F.iF.bg:F.iF.cK K .ret (sM e 72 h)=(K (.ret (e 4)) h):=by kernel_rfl
theorem F.Mv:EV (ag Tryz.f115) (sM (ay [a0,a1]) 72 h) (RL Tryz.f115 K)=(aa (eG a1) fun p=>fl 0 (nP h) (hA h p) fun t q=>an TP 153 [q] (hA h p) (bf (fun r c=>aa (mh .not r) fun k=>aq k (K (.ret bF) c) (fl 1 (nP h) c fun u s=>aa (aF .lss s (I6 0)) fun a=>aq a (K (.ret bF) c) (fl 1 (nP h) c fun l f=>aa (aF .gtr f (I6 12)) fun b=>aq b (K (.ret bF) c) (fl 1 (nP h) c fun m g=>an TP 155 [a0,g] c (bf (fun i j=>aa (aF .gtr i (I6 4096)) fun d=>aq d (K (.ret bF) j) (bJ (EV F.iF.L0) (sM (sL (ay [a0,a1]) [(3,nP h),(4,bF),(6,t),(7,q),(8,r),(9,k),(10,k),(10,bF),(11,u),(10,bF),(12,s),(10,bF),(13,a),(14,a),(15,a),(15,bF),(16,l),(15,bF),(17,f),(15,bF),(18,b),(19,b),(20,b),(20,bF),(21,a0),(20,bF),(22,m),(20,bF),(23,g),(20,bF),(24,i),(20,bF),(25,d),(26,d),(5,I6 0)]) 72 j) (F.iF.cK K))) (pK K)))))) (pK K))):=by kernel_rfl
theorem F.JT(hh:EV (ag Tryz.f115) (sM (ay [a0,a1]) 72 h) (RL Tryz.f115 K)=true):Sem TP 115 [a0,a1] h K:=
 SB Tryz.func115 hh
noncomputable def F.gI.L0:=partOf (ag Tryz.f156) [1,0,1,0,0]
noncomputable def F.gI.cK:=LK 0 Tryz.f156 [1,1]
theorem F.gI.aP:EV F.gI.L0 (sM e 30 h) J=(aa (bK .slice (e 0) h) fun d=>aa (aF .lss (e 5) d) fun f=>let Q1:=(sL e [(6,e 5),(7,e 0),(8,d),(9,f)]);aq f (il 1 (e 0) (e 5) h fun l g=>il 1 (e 1) (e 5) h fun m i=>aa (qE (.int .i64) g i) fun j=>let Q2:=(sL Q1 [(12,e 0),(13,e 5),(14,l),(15,g),(16,e 1),(17,e 5),(18,m),(19,i),(20,j)]);aq j (il 1 (e 0) (e 5) h fun n k=>il 1 (e 1) (e 5) h fun o a=>aa (aF .lss k a) fun b=>J .ret (sM (sL Q2 [(21,e 0),(22,e 5),(23,n),(24,k),(25,e 1),(26,e 5),(27,o),(28,a),(29,b),(4,b)]) 30 h)) (aa (aF .add (e 5) (I6 1)) fun c=>J .normal (sM (sL Q2 [(10,e 5),(11,c),(5,c)]) 30 h))) (J (.exit 0) (sM Q1 30 h))):=by kernel_rfl
theorem F.gI.aC:F.gI.cK K (.exit 0) (sM e 30 h)=(K (.ret bF) h):=by kernel_rfl
theorem F.gI.bg:F.gI.cK K .ret (sM e 30 h)=(K (.ret (e 4)) h):=by kernel_rfl
theorem F.JU:EV (ag Tryz.f156) (sM (ay [a0,a1]) 30 h) (RL Tryz.f156 K)=(bJ (EV F.gI.L0) (sM (sL (ay [a0,a1]) [(4,bF),(5,I6 0)]) 30 h) (F.gI.cK K)):=by kernel_rfl
theorem F.HV(hh:EV (ag Tryz.f156) (sM (ay [a0,a1]) 30 h) (RL Tryz.f156 K)=true):Sem TP 156 [a0,a1] h K:=
 SB Tryz.func156 hh
noncomputable def F.fB.L0:=partOf (ag Tryz.f108) [1,1,0,1,0,0]
noncomputable def F.fB.cK:=LK 0 Tryz.f108 [1,1,1]
theorem F.fB.aP:EV F.fB.L0 (sM e 19 h) J=(aa (aF .lss (e 9) (e 8)) fun b=>aq b (aa (aF .mul (e 7) (e 0)) fun a=>aa (aF .gtr a (e 2)) fun c=>let Q1:=(sL e [(10,b),(11,e 7),(12,e 0),(13,a),(7,a),(14,a),(15,e 2),(16,c)]);aq c (J .ret (sM (cF Q1 6 (I6 (-1))) 19 h)) (aa (aF .add (e 9) (I6 1)) fun d=>J .normal (sM (sL Q1 [(17,d),(9,d)]) 19 h))) (J (.exit 0) (sM (cF e 10 b) 19 h))):=by kernel_rfl
theorem F.fB.aC:F.fB.cK K (.exit 0) (sM e 19 h)=(K (.ret (e 7)) h):=by kernel_rfl
theorem F.fB.bg:F.fB.cK K .ret (sM e 19 h)=(K (.ret (e 6)) h):=by kernel_rfl
theorem F.HW:EV (ag Tryz.f108) (sM (ay [a0,a1,a2]) 19 h) (RL Tryz.f108 K)=(bJ (EV F.fB.L0) (sM (sL (ay [a0,a1,a2]) [(6,I6 0),(7,I6 1),(8,a1),(9,I6 0)]) 19 h) (F.fB.cK K)):=by kernel_rfl
theorem F.FL(hh:EV (ag Tryz.f108) (sM (ay [a0,a1,a2]) 19 h) (RL Tryz.f108 K)=true):Sem TP 108 [a0,a1,a2] h K:=
 SB Tryz.func108 hh
noncomputable def F.dO.L0:=partOf (ag Tryz.f109) [1,0,1,0,0]
noncomputable def F.dO.cK:=LK 0 Tryz.f109 [1,1]
theorem F.dO.aP:EV F.dO.L0 (sM e 42 h) J=(aa (aF .lss (e 10) (e 9)) fun w=>let Q1:=(cF e 11 w);aq w (il 1 (e 8) (e 10) h fun z b=>aa (bK .slice b h) fun x=>fl 1 (e 3) h fun A y=>aa (qE (.int .i64) x y) fun f=>let Q2:=(sL Q1 [(12,e 10),(13,z),(14,b),(5,e 10),(6,b),(15,b),(16,x),(17,A),(18,y),(19,f),(20,f)]);aq f (J .ret (sM (sL Q2 [(20,bT),(21,bz),(20,bT),(22,bz),(20,bT),(23,bz),(20,bT),(24,bz),(25,bT),(26,bT),(26,bT),(27,bz),(26,bT),(28,bz),(26,bT),(29,bz),(30,bz),(31,bz),(32,bz),(33,bz),(34,bz),(35,bz),(36,bz),(37,bz),(38,bz),(26,bT),(39,bz),(40,bT),(4,bF)]) 42 h)) (an TP 52 [(e 0),b] h (bf (fun l a=>aa (mh .not l) fun c=>let Q3:=(sL Q2 [(20,bF),(21,e 0),(20,bF),(22,b),(20,bF),(23,l),(20,bF),(24,c),(25,c),(26,c)]);aq c (J .ret (sM (sL Q3 [(26,bT),(27,bz),(26,bT),(28,bz),(26,bT),(29,bz),(30,bz),(31,bz),(32,bz),(33,bz),(34,bz),(35,bz),(36,bz),(37,bz),(38,bz),(26,bT),(39,bz),(40,bT),(4,bF)]) 42 a)) (aa (aF .gtr (e 10) (I6 0)) fun g=>let Q4:=(sL Q3 [(26,bF),(27,e 10),(26,bF),(28,g),(26,bF),(29,g)]);aq g (fl 2 (e 3) a fun m i=>aa (aF .sub (e 10) (I6 1)) fun j=>il 1 i j a fun n k=>an TP 55 [k,b] a (bf (fun o p=>aa (aF .geq o (I6 0)) fun d=>let Q5:=(sL Q4 [(29,bT),(30,m),(29,bT),(31,i),(29,bT),(32,e 10),(29,bT),(33,j),(29,bT),(34,n),(29,bT),(35,k),(29,bT),(36,b),(29,bT),(37,o),(29,bT),(38,d),(26,bF),(39,d),(40,d)]);aq d (J .ret (sM (cF Q5 4 bF) 42 p)) (aa (aF .add (e 10) (I6 1)) fun q=>J .normal (sM (sL Q5 [(41,q),(10,q)]) 42 p))) (pS J (sL Q4 [(29,bT),(30,m),(29,bT),(31,i),(29,bT),(32,e 10),(29,bT),(33,j),(29,bT),(34,n),(29,bT),(35,k),(29,bT),(36,b),(29,bT)]) 42))) (aa (aF .add (e 10) (I6 1)) fun r=>J .normal (sM (sL Q4 [(29,bF),(30,bz),(29,bF),(31,bz),(29,bF),(32,bz),(29,bF),(33,bz),(29,bF),(34,bz),(29,bF),(35,bz),(29,bF),(36,bz),(29,bF),(37,bz),(29,bF),(38,bz),(26,bF),(39,bF),(40,bF),(41,r),(10,r)]) 42 a)))) (pS J (sL Q2 [(20,bF),(21,e 0),(20,bF),(22,b),(20,bF)]) 42)))) (J (.exit 0) (sM Q1 42 h))):=by kernel_rfl
theorem F.dO.aC:F.dO.cK K (.exit 0) (sM e 42 h)=(K (.ret bT) h):=by kernel_rfl
theorem F.dO.bg:F.dO.cK K .ret (sM e 42 h)=(K (.ret (e 4)) h):=by kernel_rfl
theorem F.FM:EV (ag Tryz.f109) (sM (ay [a0,a1]) 42 h) (RL Tryz.f109 K)=(aa (eG a1) fun a=>fl 2 (nP h) (hA h a) fun c b=>aa (bK .slice b (hA h a)) fun d=>bJ (EV F.dO.L0) (sM (sL (ay [a0,a1]) [(3,nP h),(4,bF),(7,c),(8,b),(9,d),(10,I6 0)]) 42 (hA h a)) (F.dO.cK K)):=by kernel_rfl
theorem F.DK(hh:EV (ag Tryz.f109) (sM (ay [a0,a1]) 42 h) (RL Tryz.f109 K)=true):Sem TP 109 [a0,a1] h K:=
 SB Tryz.func109 hh
theorem F.mJ:EV (ag Tryz.f110) (sM (ay [a0,a1]) 9 h) (RL Tryz.f110 K)=(an TP 76 [a0,a1] h (bf (fun a b=>aa (aF .geq a (I6 0)) fun c=>K (.ret c) b) (pK K))):=by kernel_rfl
theorem F.mz(hh:EV (ag Tryz.f110) (sM (ay [a0,a1]) 9 h) (RL Tryz.f110 K)=true):Sem TP 110 [a0,a1] h K:=
 SB Tryz.func110 hh
theorem F.DL:EV (ag Tryz.f111) (sM (ay [a0,a1]) 9 h) (RL Tryz.f111 K)=(aa (eG a0) fun a=>fl 0 (nP h) (hA h a) fun f b=>fl 0 a1 (hA h a) fun g c=>aa (jC .string b c) fun d=>K (.ret d) (hA h a)):=by kernel_rfl
theorem F.CE(hh:EV (ag Tryz.f111) (sM (ay [a0,a1]) 9 h) (RL Tryz.f111 K)=true):Sem TP 111 [a0,a1] h K:=
 SB Tryz.func111 hh
noncomputable def F.bA.L0:=partOf (ag Tryz.f76) [1,0,1,0,0]
noncomputable def F.bA.cK:=LK 0 Tryz.f76 [1,1]
theorem F.bA.aP:EV F.bA.L0 (sM e 19 h) J=(aa (aF .lss (e 8) (e 7)) fun c=>let Q1:=(cF e 9 c);aq c (aa (jw 3 (e 0) (e 8)) fun a=>aa (au (some 3) a h) fun b=>ud (e 1) fun f9 YF Zp=>an TP f9 (YF++([b]++Zp)) h (bf (fun d f=>let Q2:=(sL Q1 [(10,e 8),(5,e 8),(11,e 1),(12,e 0),(13,e 8),(14,a),(15,b),(16,d)]);aq d (J .ret (sM (sL Q2 [(17,e 8),(4,e 8)]) 19 f)) (aa (aF .add (e 8) (I6 1)) fun g=>J .normal (sM (sL Q2 [(18,g),(8,g)]) 19 f))) (pS J (sL Q1 [(10,e 8),(5,e 8),(11,e 1),(12,e 0),(13,e 8),(14,a),(15,b)]) 19))) (J (.exit 0) (sM Q1 19 h))):=by kernel_rfl
theorem F.bA.aC:F.bA.cK K (.exit 0) (sM e 19 h)=(K (.ret (I6 (-1))) h):=by kernel_rfl
theorem F.bA.bg:F.bA.cK K .ret (sM e 19 h)=(K (.ret (e 4)) h):=by kernel_rfl
theorem F.nF:EV (ag Tryz.f76) (sM (ay [a0,a1]) 19 h) (RL Tryz.f76 K)=(aa (bK .slice a0 h) fun a=>bJ (EV F.bA.L0) (sM (sL (ay [a0,a1]) [(4,I6 0),(6,a0),(7,a),(8,I6 0)]) 19 h) (F.bA.cK K)):=by kernel_rfl
theorem F.m8(hh:EV (ag Tryz.f76) (sM (ay [a0,a1]) 19 h) (RL Tryz.f76 K)=true):Sem TP 76 [a0,a1] h K:=
 SB Tryz.func76 hh
theorem F.FN:EV (ag Tryz.f94) (sM (ay [a0,a1,a2]) 15 h) (RL Tryz.f94 K)=(aa (eG a0) fun a=>fl 0 (nP h) (hA h a) fun j b=>aa (au none a1 (hA h a)) fun c=>aa (jC .string b c) fun d=>aq d (fl 1 (nP h) (hA h a) fun k f=>aa (au none a2 (hA h a)) fun g=>aa (jC (.int .i64) f g) fun i=>K (.ret i) (hA h a)) (K (.ret bF) (hA h a))):=by kernel_rfl
theorem F.DM(hh:EV (ag Tryz.f94) (sM (ay [a0,a1,a2]) 15 h) (RL Tryz.f94 K)=true):Sem TP 94 [a0,a1,a2] h K:=
 SB Tryz.func94 hh
theorem F.Bu:EV (ag Tryz.f95) (sM (ay [a0,a1]) 20 h) (RL Tryz.f95 K)=(an TP 136 [a0] h (bf (fun c d=>an TP 136 [a1] d (bf (fun b a=>aq c (aq b (K (.ret (I6 0)) a) (K (.ret (I6 (-1))) a)) (aq b (K (.ret (I6 1)) a) (aa (aF .lss a0 a1) fun f=>aq f (K (.ret (I6 (-1))) a) (aa (aF .gtr a0 a1) fun g=>aq g (K (.ret (I6 1)) a) (K (.ret (I6 0)) a))))) (pK K))) (pK K))):=by kernel_rfl
theorem F.An(hh:EV (ag Tryz.f95) (sM (ay [a0,a1]) 20 h) (RL Tryz.f95 K)=true):Sem TP 95 [a0,a1] h K:=
 SB Tryz.func95 hh
theorem F.Ao:EV (ag Tryz.f93) (sM (ay [a0,a1]) 11 h) (RL Tryz.f93 K)=(aa (aF .lss a0 (I6 0)) fun a=>aq a (K (.ret bT) h) (aa (au none a1 h) fun b=>aa (aF .geq a0 b) fun c=>K (.ret c) h)):=by kernel_rfl
theorem F.yw(hh:EV (ag Tryz.f93) (sM (ay [a0,a1]) 11 h) (RL Tryz.f93 K)=true):Sem TP 93 [a0,a1] h K:=
 SB Tryz.func93 hh
theorem F.DN:EV (ag Tryz.f136) (sM (ay [a0]) 6 h) (RL Tryz.f136 K)=(aa (qE (.int .i64) a0 a0) fun a=>K (.ret a) h):=by kernel_rfl
theorem F.CF(hh:EV (ag Tryz.f136) (sM (ay [a0]) 6 h) (RL Tryz.f136 K)=true):Sem TP 136 [a0] h K:=
 SB Tryz.func136 hh
noncomputable def F.jq.L0:=partOf (ag Tryz.f125) [1,0,1,0,0]
noncomputable def F.jq.cK:=LK 0 Tryz.f125 [1,1]
theorem F.jq.aP:EV F.jq.L0 (sM e 25 h) J=(aa (bK .slice (e 1) h) fun c=>aa (aF .lss (e 5) c) fun d=>let Q1:=(sL e [(6,e 5),(7,e 1),(8,c),(9,d)]);aq d (il 1 (e 1) (e 5) h fun j f=>aa (aF .lss f (I6 0)) fun a=>let Q2:=(sL Q1 [(12,e 1),(13,e 5),(14,j),(15,f),(16,a),(17,a)]);aq a (J .ret (sM (sL Q2 [(17,bT),(18,bz),(17,bT),(19,bz),(17,bT),(20,bz),(17,bT),(21,bz),(17,bT),(22,bz),(17,bT),(23,bz),(24,bT),(4,bF)]) 25 h)) (il 1 (e 1) (e 5) h fun k g=>aa (aF .geq g (e 0)) fun b=>let Q3:=(sL Q2 [(17,bF),(18,e 1),(17,bF),(19,e 5),(17,bF),(20,k),(17,bF),(21,g),(17,bF),(22,e 0),(17,bF),(23,b),(24,b)]);aq b (J .ret (sM (cF Q3 4 bF) 25 h)) (aa (aF .add (e 5) (I6 1)) fun i=>J .normal (sM (sL Q3 [(10,e 5),(11,i),(5,i)]) 25 h)))) (J (.exit 0) (sM Q1 25 h))):=by kernel_rfl
theorem F.jq.aC:F.jq.cK K (.exit 0) (sM e 25 h)=(K (.ret bT) h):=by kernel_rfl
theorem F.jq.bg:F.jq.cK K .ret (sM e 25 h)=(K (.ret (e 4)) h):=by kernel_rfl
theorem F.Ov:EV (ag Tryz.f125) (sM (ay [a0,a1]) 25 h) (RL Tryz.f125 K)=(bJ (EV F.jq.L0) (sM (sL (ay [a0,a1]) [(4,bF),(5,I6 0)]) 25 h) (F.jq.cK K)):=by kernel_rfl
theorem F.Mw(hh:EV (ag Tryz.f125) (sM (ay [a0,a1]) 25 h) (RL Tryz.f125 K)=true):Sem TP 125 [a0,a1] h K:=
 SB Tryz.func125 hh
noncomputable def F.cr.L0:=partOf (ag Tryz.f91) [1,0,1,0,0]
noncomputable def F.cr.cK:=LK 0 Tryz.f91 [1,1]
theorem F.cr.aP:EV F.cr.L0 (sM e 19 h) J=(aa (aF .lss (e 8) (e 7)) fun b=>let Q1:=(cF e 9 b);aq b (il 1 (e 0) (e 8) h fun c a=>ud (e 1) fun f9 YF Zp=>an TP f9 (YF++([a]++Zp)) h (bf (fun d f=>let Q2:=(sL Q1 [(10,e 8),(5,e 8),(11,e 1),(12,e 0),(13,e 8),(14,c),(15,a),(16,d)]);aq d (J .ret (sM (sL Q2 [(17,e 8),(4,e 8)]) 19 f)) (aa (aF .add (e 8) (I6 1)) fun g=>J .normal (sM (sL Q2 [(18,g),(8,g)]) 19 f))) (pS J (sL Q1 [(10,e 8),(5,e 8),(11,e 1),(12,e 0),(13,e 8),(14,c),(15,a)]) 19))) (J (.exit 0) (sM Q1 19 h))):=by kernel_rfl
theorem F.cr.aC:F.cr.cK K (.exit 0) (sM e 19 h)=(K (.ret (I6 (-1))) h):=by kernel_rfl
theorem F.cr.bg:F.cr.cK K .ret (sM e 19 h)=(K (.ret (e 4)) h):=by kernel_rfl
theorem F.rC:EV (ag Tryz.f91) (sM (ay [a0,a1]) 19 h) (RL Tryz.f91 K)=(aa (bK .slice a0 h) fun a=>bJ (EV F.cr.L0) (sM (sL (ay [a0,a1]) [(4,I6 0),(6,a0),(7,a),(8,I6 0)]) 19 h) (F.cr.cK K)):=by kernel_rfl
theorem F.qM(hh:EV (ag Tryz.f91) (sM (ay [a0,a1]) 19 h) (RL Tryz.f91 K)=true):Sem TP 91 [a0,a1] h K:=
 SB Tryz.func91 hh
theorem F.pO:EV (ag Tryz.f47) (sM (ay [a0,a1]) 9 h) (RL Tryz.f47 K)=(an TP 91 [a0,a1] h (bf (fun a b=>aa (aF .geq a (I6 0)) fun c=>K (.ret c) b) (pK K))):=by kernel_rfl
theorem F.pF(hh:EV (ag Tryz.f47) (sM (ay [a0,a1]) 9 h) (RL Tryz.f47 K)=true):Sem TP 47 [a0,a1] h K:=
 SB Tryz.func47 hh
noncomputable def F.b8.L0:=partOf (ag Tryz.f32) [1,1,0,1,0,0]
noncomputable def F.b8.cK:=LK 0 Tryz.f32 [1,1,1]
noncomputable def F.b8.L1:=partOf (ag Tryz.f32) [1,1,0,1,0,0,1,0,0,1,0,1,0,0]
noncomputable def F.b8.kg(J:AX->St->Bool):=(cE 2 (jG false (EV (partOf (ag Tryz.f32) [1,1,0,1,0,0,1,0,0,1,1])) (cE 1 (jG false (EV (partOf (ag Tryz.f32) [1,1,0,1,0,0,1,1])) J))))
noncomputable def F.b8.L2:=partOf (ag Tryz.f32) [1,1,0,1,0,0,1,0,0,1,0,1,0,0,1,0,0,1,0,0]
noncomputable def F.b8.xj(J:AX->St->Bool):=(cE 4 (cE 3 (jG false (EV (partOf (ag Tryz.f32) [1,1,0,1,0,0,1,0,0,1,0,1,0,0,1,1])) J)))
theorem F.b8.aP:EV F.b8.L0 (sM e 42 h) J=(aa (aF .lss (e 6) (e 1)) fun a=>let Q1:=(sL e [(12,e 6),(13,e 1),(14,a)]);aq a (bJ (EV F.b8.L1) (sM (sL Q1 [(7,.ai),(8,I6 0)]) 42 h) (F.b8.kg J)) (J (.exit 0) (sM Q1 42 h))):=by kernel_rfl
theorem F.b8.aC:F.b8.cK K (.exit 0) (sM e 42 h)=(K (.ret (e 5)) h):=by kernel_rfl
theorem F.b8.cU:EV F.b8.L1 (sM e 42 h) J=(aa (bK .slice (e 5) h) fun a=>aa (aF .lss (e 8) a) fun b=>let Q1:=(sL e [(17,e 8),(18,e 5),(19,a),(20,b)]);aq b (bJ (EV F.b8.L2) (sM (cF Q1 9 (I6 0)) 42 h) (F.b8.xj J)) (J (.exit 2) (sM Q1 42 h))):=by kernel_rfl
theorem F.b8.cm:F.b8.kg J (.exit 2) (sM e 42 h)=(aa (aF .add (e 6) (I6 1)) fun a=>J .normal (sM (sL e [(40,e 7),(5,e 7),(15,e 6),(16,a),(6,a)]) 42 h)):=by kernel_rfl
theorem F.b8.lD:EV F.b8.L2 (sM e 42 h) J=(aa (aF .lss (e 9) (e 0)) fun l=>let Q1:=(sL e [(23,e 9),(24,e 0),(25,l)]);aq l (aa (eN [] [] []) fun m=>il 1 (e 5) (e 8) (hA h m) fun o n=>cG (bB 1 8 (.slice (Heap.next h) 0 0 1) n (hA h m)) fun c a=>aa (eN [(I6 0)] [(0,1)] [(e 9)]) fun i=>cG (bB 1 8 c (.slice (Heap.next a) 0 1 1) (hA a i)) fun d b=>aa (eN [.ai] [(0,1)] [d]) fun j=>cG (bB 1 24 (e 7) (.slice (Heap.next b) 0 1 1) (hA b j)) fun f k=>aa (aF .add (e 9) (I6 1)) fun g=>J .normal (sM (sL Q1 [(28,e 7),(29,.slice (Heap.next h) 0 0 1),(30,e 5),(31,e 8),(32,o),(33,n),(34,c),(35,e 9),(36,.slice (Heap.next a) 0 1 1),(37,d),(38,.slice (Heap.next b) 0 1 1),(39,f),(7,f),(26,e 9),(27,g),(9,g)]) 42 k)) (J (.exit 4) (sM Q1 42 h))):=by kernel_rfl
theorem F.b8.jo:F.b8.xj J (.exit 4) (sM e 42 h)=(aa (aF .add (e 8) (I6 1)) fun a=>J .normal (sM (sL e [(21,e 8),(22,a),(8,a)]) 42 h)):=by kernel_rfl
theorem F.FO:EV (ag Tryz.f32) (sM (ay [a0,a1]) 42 h) (RL Tryz.f32 K)=(aa (eN [] [] []) fun a=>aa (eN [.ai] [(0,1)] [(.slice (Heap.next h) 0 0 1)]) fun b=>bJ (EV F.b8.L0) (sM (sL (ay [a0,a1]) [(4,.ai),(10,.slice (Heap.next h) 0 0 1),(11,.slice (Heap.next (hA h a)) 0 1 1),(5,.slice (Heap.next (hA h a)) 0 1 1),(6,I6 0)]) 42 (hA (hA h a) b)) (F.b8.cK K)):=by kernel_rfl
theorem F.DO(hh:EV (ag Tryz.f32) (sM (ay [a0,a1]) 42 h) (RL Tryz.f32 K)=true):Sem TP 32 [a0,a1] h K:=
 SB Tryz.func32 hh
noncomputable def F.jf.L0:=partOf (ag Tryz.f25) [1,1,0,1,0,0]
noncomputable def F.jf.cK:=LK 0 Tryz.f25 [1,1,1]
theorem F.jf.aP:EV F.jf.L0 (sM e 41 h) J=(fl 1 (e 1) h fun O I=>aa (bK .slice I h) fun L=>aa (aF .lss (e 4) L) fun M=>let Q1:=(sL e [(8,e 4),(9,O),(10,I),(11,L),(12,M)]);aq M (fl 1 (e 3) h fun N b=>fl 1 (e 1) h fun i c=>ou 3 c (e 4) 0 h fun t j d=>fl 1 (e 1) h fun k f=>ou 3 f (e 4) 1 h fun u l g=>fl 1 (e 1) h fun v m=>ou 3 m (e 4) 2 h fun w x n=>an TP 72 [n] h (bf (fun o a=>if ((aa (au none l a) fun y=>AV.beq y g)&&((aa (au none k a) fun z=>AV.beq z f)&&((aa (au none j a) fun A=>AV.beq A d)&&((aa (au none i a) fun B=>AV.beq B c)&&((aa (au none N a) fun C=>AV.beq C b)&&true)))))=true then (aa (iP [(.str []),(I6 0),.ai] [(0,1),(1,1),(2,1)] [d,g,o]) fun p=>aa (eN [(.str []),(I6 0),.ai] [(0,3)] [p]) fun D=>cG (bB 3 48 b (.slice (Heap.next a) 0 1 3) (hA a D)) fun q E=>aa (ja 1 (e 3)) fun r=>aa (aS 1 r q E) fun G=>aa (aF .add (e 4) (I6 1)) fun s=>J .normal (sM (sL Q1 [(15,N),(16,b),(17,i),(18,c),(19,e 4),(20,t),(21,j),(22,d),(23,k),(24,f),(25,e 4),(26,u),(27,l),(28,g),(29,v),(30,m),(31,e 4),(32,w),(33,x),(34,n),(35,o),(36,p),(37,.slice (Heap.next a) 0 1 3),(38,q),(39,r),(13,e 4),(14,s),(4,s)]) 41 G)) else false) fF)) (J (.exit 0) (sM Q1 41 h))):=by kernel_rfl
theorem F.jf.aC:F.jf.cK K (.exit 0) (sM e 41 h)=(aa (au (some 2) (e 3) h) fun a=>aa (aS 2 (e 2) a h) fun b=>aa (dz TP (sM (cF e 40 a) 41 b) Tryz.f25.results.toList) fun c=>K (.ret (oneOf c)) b):=by kernel_rfl
theorem F.JV:EV (ag Tryz.f25) (sM (ay [a0]) 41 h) (RL Tryz.f25 K)=(aa (eG a0) fun a=>fl 0 (nP h) (hA (hA h a) [(I6 0),.ai]) fun d b=>aa (iP [(I6 0),.ai] [(0,1)] [b]) fun c=>aa (aS 2 (.ptr (Heap.next (hA (hA h a) [(I6 0),.ai])) 0) c (hA (hA (hA h a) [(I6 0),.ai]) [(I6 0),.ai])) fun f=>bJ (EV F.jf.L0) (sM (sL (ay [a0]) [(1,nP h),(2,.ptr (Heap.next (hA h a)) 0),(5,d),(6,b),(7,c),(3,.ptr (Heap.next (hA (hA h a) [(I6 0),.ai])) 0),(4,I6 0)]) 41 f) (F.jf.cK K)):=by kernel_rfl
theorem F.HX(hh:EV (ag Tryz.f25) (sM (ay [a0]) 41 h) (RL Tryz.f25 K)=true):Sem TP 25 [a0] h K:=
 SB Tryz.func25 hh
noncomputable def F.iq.L0:=partOf (ag Tryz.f72) [1,1,0,1,0,0]
noncomputable def F.iq.cK:=LK 0 Tryz.f72 [1,1,1]
theorem F.iq.aP:EV F.iq.L0 (sM e 21 h) J=(aa (bK .slice (e 0) h) fun c=>aa (aF .lss (e 4) c) fun d=>let Q1:=(sL e [(5,e 4),(6,e 0),(7,c),(8,d)]);aq d (aa (eN [] [] []) fun f=>il 1 (e 0) (e 4) (hA h f) fun k g=>cG (bB 1 8 (.slice (Heap.next h) 0 0 1) g (hA h f)) fun i b=>aa (eN [.ai] [(0,1)] [i]) fun l=>cG (bB 1 24 (e 3) (.slice (Heap.next b) 0 1 1) (hA b l)) fun j m=>aa (aF .add (e 4) (I6 1)) fun a=>J .normal (sM (sL Q1 [(11,e 3),(12,.slice (Heap.next h) 0 0 1),(13,e 0),(14,e 4),(15,k),(16,g),(17,i),(18,.slice (Heap.next b) 0 1 1),(19,j),(3,j),(9,e 4),(10,a),(4,a)]) 21 m)) (J (.exit 0) (sM Q1 21 h))):=by kernel_rfl
theorem F.iq.aC:F.iq.cK K (.exit 0) (sM e 21 h)=(K (.ret (e 3)) h):=by kernel_rfl
theorem F.FP:EV (ag Tryz.f72) (sM (ay [a0]) 21 h) (RL Tryz.f72 K)=(bJ (EV F.iq.L0) (sM (sL (ay [a0]) [(2,.ai),(3,.ai),(4,I6 0)]) 21 h) (F.iq.cK K)):=by kernel_rfl
theorem F.DP(hh:EV (ag Tryz.f72) (sM (ay [a0]) 21 h) (RL Tryz.f72 K)=true):Sem TP 72 [a0] h K:=
 SB Tryz.func72 hh
noncomputable def F.fZ.L0:=partOf (ag Tryz.f34) [1,0,1,0,0]
noncomputable def F.fZ.cK:=LK 0 Tryz.f34 [1,1]
theorem F.fZ.aP:EV F.fZ.L0 (sM e 18 h) J=(aa (bK .slice (e 0) h) fun b=>aa (aF .lss (e 5) b) fun c=>let Q1:=(sL e [(6,e 5),(7,e 0),(8,b),(9,c)]);aq c (il 1 (e 0) (e 5) h fun d a=>an TP 20 [a,(e 1)] h (bf (fun f g=>let Q2:=(sL Q1 [(12,e 0),(13,e 5),(14,d),(15,a),(16,e 1),(17,f)]);aq f (J .ret (sM (cF Q2 4 bT) 18 g)) (aa (aF .add (e 5) (I6 1)) fun i=>J .normal (sM (sL Q2 [(10,e 5),(11,i),(5,i)]) 18 g))) (pS J (sL Q1 [(12,e 0),(13,e 5),(14,d),(15,a),(16,e 1)]) 18))) (J (.exit 0) (sM Q1 18 h))):=by kernel_rfl
theorem F.fZ.aC:F.fZ.cK K (.exit 0) (sM e 18 h)=(K (.ret bF) h):=by kernel_rfl
theorem F.fZ.bg:F.fZ.cK K .ret (sM e 18 h)=(K (.ret (e 4)) h):=by kernel_rfl
theorem F.HY:EV (ag Tryz.f34) (sM (ay [a0,a1]) 18 h) (RL Tryz.f34 K)=(bJ (EV F.fZ.L0) (sM (sL (ay [a0,a1]) [(4,bF),(5,I6 0)]) 18 h) (F.fZ.cK K)):=by kernel_rfl
theorem F.FQ(hh:EV (ag Tryz.f34) (sM (ay [a0,a1]) 18 h) (RL Tryz.f34 K)=true):Sem TP 34 [a0,a1] h K:=
 SB Tryz.func34 hh
noncomputable def F.jr.L0:=partOf (ag Tryz.f63) [1,1,1,1,1,0,1,0,0]
noncomputable def F.jr.cK:=LK 0 Tryz.f63 [1,1,1,1,1,1]
theorem F.jr.aP:EV F.jr.L0 (sM e 46 h) J=(aa (aF .geq (e 11) (I6 0)) fun a=>let Q1:=(sL e [(32,e 11),(33,a)]);aq a (aa (aF .rem (e 2) (e 0)) fun b=>aa (aF .quo (e 2) (e 0)) fun c=>aa (jw 1 (e 10) (e 11)) fun d=>aa (aS 1 d b h) fun g=>aa (aF .sub (e 11) (I6 1)) fun f=>J .normal (sM (sL Q1 [(36,e 10),(37,e 11),(38,e 2),(39,e 0),(40,b),(41,e 2),(42,e 0),(43,c),(44,d),(2,c),(34,e 11),(35,f),(11,f)]) 46 g)) (J (.exit 0) (sM Q1 46 h))):=by kernel_rfl
theorem F.jr.aC:F.jr.cK K (.exit 0) (sM e 46 h)=(K (.ret (.tuple [(e 10),(I6 0)])) h):=by kernel_rfl
theorem F.HZ:EV (ag Tryz.f63) (sM (ay [a0,a1,a2]) 46 h) (RL Tryz.f63 K)=(an TP 99 [a0,a1] h (bf (fun c d=>aa (bu c 0) fun f=>aa (bu c 1) fun a=>aa (qE (.int .i64) a (I6 0)) fun k=>aq k (K (.ret (.tuple [.ai,a])) d) (aa (aF .lss a2 (I6 0)) fun g=>aq g (K (.ret (.tuple [.ai,(I6 2)])) d) (aa (aF .geq a2 f) fun i=>aq i (K (.ret (.tuple [.ai,(I6 2)])) d) (cG (gE 1 8 [(I6 0)] a1 a1 d) fun l j=>aa (aF .sub a1 (I6 1)) fun b=>bJ (EV F.jr.L0) (sM (sL (ay [a0,a1,a2]) [(6,.ai),(7,I6 0),(13,a0),(14,a1),(15,c),(12,c),(16,f),(17,a),(8,f),(9,a),(18,a),(19,k),(21,a2),(22,g),(23,g),(23,bF),(24,a2),(23,bF),(25,f),(23,bF),(26,i),(27,i),(28,a1),(29,l),(10,l),(30,a1),(31,b),(11,b)]) 46 j) (F.jr.cK K))))) (pK K))):=by kernel_rfl
theorem F.FR(hh:EV (ag Tryz.f63) (sM (ay [a0,a1,a2]) 46 h) (RL Tryz.f63 K)=true):Sem TP 63 [a0,a1,a2] h K:=
 SB Tryz.func63 hh
noncomputable def F.cX.L0:=partOf (ag Tryz.f46) [1,1,0,1,0,0]
noncomputable def F.cX.cK:=LK 0 Tryz.f46 [1,1,1]
noncomputable def F.cX.L1:=partOf (ag Tryz.f46) [1,1,0,1,0,0,1,1,0,0,1,1,0,1,0,0]
noncomputable def F.cX.kg(J:AX->St->Bool):=(cE 2 (jG false (EV (partOf (ag Tryz.f46) [1,1,0,1,0,0,1,1,0,0,1,1,1])) (cE 1 (jG false (EV (partOf (ag Tryz.f46) [1,1,0,1,0,0,1,1,1])) J))))
theorem F.cX.aP:EV F.cX.L0 (sM e 47 h) J=(aa (aF .lss (e 15) (e 14)) fun j=>aq j (aa (jw 3 (e 13) (e 15)) fun o=>aa (au (some 3) o h) fun c=>aa (aS 3 (nP h) c (hA h [(.str []),(I6 0),.ai])) fun a=>fl 0 (nP h) a fun k d=>fl 1 (nP h) a fun l f=>aa (iP [(.str []),(I6 0),.ai] [(0,1),(1,1)] [d,f]) fun g=>aa (aS 3 (nP a) g (hA a [(.str []),(I6 0),.ai])) fun b=>fl 2 (nP h) b fun m i=>aa (bK .slice i b) fun n=>bJ (EV F.cX.L1) (sM (sL e [(16,j),(17,o),(18,c),(5,nP h),(19,k),(20,d),(21,l),(22,f),(23,g),(6,nP a),(24,m),(25,i),(26,n),(27,I6 0)]) 47 b) (F.cX.kg J)) (J (.exit 0) (sM (cF e 16 j) 47 h))):=by kernel_rfl
theorem F.cX.aC:F.cX.cK K (.exit 0) (sM e 47 h)=(aa (au (some 2) (e 3) h) fun a=>aa (aS 2 (e 2) a h) fun b=>aa (dz TP (sM (cF e 46 a) 47 b) Tryz.f46.results.toList) fun c=>K (.ret (oneOf c)) b):=by kernel_rfl
theorem F.cX.cU:EV F.cX.L1 (sM e 47 h) J=(aa (aF .lss (e 27) (e 26)) fun c=>aq c (il 1 (e 25) (e 27) h fun l a=>fl 2 (e 6) h fun f d=>an TP 49 [a] h (bf (fun g b=>if ((aa (au none f b) fun m=>AV.beq m d)&&true)=true then (aa (eN [.ai] [(0,1)] [g]) fun n=>cG (bB 1 24 d (.slice (Heap.next b) 0 1 1) (hA b n)) fun i o=>aa (ja 2 (e 6)) fun j=>aa (aS 1 j i o) fun p=>aa (aF .add (e 27) (I6 1)) fun k=>J .normal (sM (sL e [(28,c),(29,l),(30,a),(8,a),(31,f),(32,d),(33,a),(34,g),(35,.slice (Heap.next b) 0 1 1),(36,i),(37,j),(38,k),(27,k)]) 47 p)) else false) fF)) (J (.exit 2) (sM (cF e 28 c) 47 h))):=by kernel_rfl
theorem F.cX.cm:F.cX.kg J (.exit 2) (sM e 47 h)=(fl 1 (e 3) h fun g a=>aa (au (some 3) (e 6) h) fun b=>aa (eN [(.str []),(I6 0),.ai] [(0,3)] [b]) fun i=>cG (bB 3 48 a (.slice (Heap.next h) 0 1 3) (hA h i)) fun c j=>aa (ja 1 (e 3)) fun d=>aa (aS 1 d c j) fun k=>aa (aF .add (e 15) (I6 1)) fun f=>J .normal (sM (sL e [(39,g),(40,a),(41,b),(42,.slice (Heap.next h) 0 1 3),(43,c),(44,d),(45,f),(15,f)]) 47 k)):=by kernel_rfl
theorem F.AW:EV (ag Tryz.f46) (sM (ay [a0]) 47 h) (RL Tryz.f46 K)=(aa (eG a0) fun a=>fl 0 (nP h) (hA (hA h a) [(I6 0),.ai]) fun g c=>aa (iP [(I6 0),.ai] [(0,1)] [c]) fun d=>aa (aS 2 (.ptr (Heap.next (hA (hA h a) [(I6 0),.ai])) 0) d (hA (hA (hA h a) [(I6 0),.ai]) [(I6 0),.ai])) fun b=>fl 1 (nP h) b fun i f=>aa (bK .slice f b) fun j=>bJ (EV F.cX.L0) (sM (sL (ay [a0]) [(1,nP h),(2,.ptr (Heap.next (hA h a)) 0),(9,g),(10,c),(11,d),(3,.ptr (Heap.next (hA (hA h a) [(I6 0),.ai])) 0),(12,i),(13,f),(14,j),(15,I6 0)]) 47 b) (F.cX.cK K)):=by kernel_rfl
theorem F.yy(hh:EV (ag Tryz.f46) (sM (ay [a0]) 47 h) (RL Tryz.f46 K)=true):Sem TP 46 [a0] h K:=
 SB Tryz.func46 hh
theorem F.nQ:EV (ag Tryz.f49) (sM (ay [a0]) 8 h) (RL Tryz.f49 K)=(aa (jC (.slice 3) a0 .ai) fun a=>aq a (K (.ret .ai) h) (aa (eN [] [] []) fun b=>cG (bB 1 8 (.slice (Heap.next h) 0 0 1) a0 (hA h b)) fun c d=>K (.ret c) d)):=by kernel_rfl
theorem F.m9(hh:EV (ag Tryz.f49) (sM (ay [a0]) 8 h) (RL Tryz.f49 K)=true):Sem TP 49 [a0] h K:=
 SB Tryz.func49 hh
noncomputable def F.bS.L0:=partOf (ag Tryz.f23) [1,1,1,1,0,1,0,0]
noncomputable def F.bS.cK:=LK 0 Tryz.f23 [1,1,1,1,1]
noncomputable def F.bS.L1:=partOf (ag Tryz.f23) [1,1,1,1,1,0,1,0,0]
noncomputable def F.bS.kg:=LK 2 Tryz.f23 [1,1,1,1,1,1]
noncomputable def F.bS.L2:=partOf (ag Tryz.f23) [1,1,1,1,1,0,1,0,0,1,0,0,1,0,1,0,0]
noncomputable def F.bS.xj(J:AX->St->Bool):=(cE 4 (jG false (EV (partOf (ag Tryz.f23) [1,1,1,1,1,0,1,0,0,1,0,0,1,1])) (cE 3 (jG false (EV (partOf (ag Tryz.f23) [1,1,1,1,1,0,1,0,0,1,1])) J))))
theorem F.bS.aP:EV F.bS.L0 (sM e 69 h) J=(aa (bK .slice (e 5) h) fun a=>aa (aF .lss (e 6) a) fun b=>let Q1:=(sL e [(25,e 6),(26,e 5),(27,a),(28,b)]);aq b (aa (au (some 2) (e 3) h) fun c=>il 1 (e 5) (e 6) h fun k d=>an TP 69 [c,d] h (bf (fun f g=>aa (aF .geq f (I6 0)) fun i=>let Q2:=(sL Q1 [(31,c),(32,e 5),(33,e 6),(34,k),(35,d),(36,f),(37,i)]);aq i (J .ret (sM (cF Q2 4 (I6 4)) 69 g)) (aa (aF .add (e 6) (I6 1)) fun j=>J .normal (sM (sL Q2 [(29,e 6),(30,j),(6,j)]) 69 g))) fF)) (J (.exit 0) (sM Q1 69 h))):=by kernel_rfl
theorem F.bS.aC:F.bS.cK K (.exit 0) (sM e 69 h)=(bJ (EV F.bS.L1) (sM (cF e 7 (I6 0)) 69 h) (F.bS.kg K)):=by kernel_rfl
theorem F.bS.bg:F.bS.cK K .ret (sM e 69 h)=(K (.ret (e 4)) h):=by kernel_rfl
theorem F.bS.cU:EV F.bS.L1 (sM e 69 h) J=(aa (bK .slice (e 0) h) fun a=>aa (aF .lss (e 7) a) fun b=>let Q1:=(sL e [(38,e 7),(39,e 0),(40,a),(41,b)]);aq b (bJ (EV F.bS.L2) (sM (sL Q1 [(8,I6 1),(9,I6 0)]) 69 h) (F.bS.xj J)) (J (.exit 2) (sM Q1 69 h))):=by kernel_rfl
theorem F.bS.cm:F.bS.kg K (.exit 2) (sM e 69 h)=(aa (au (some 2) (e 3) h) fun b=>an TP 70 [(e 0),b] h (bf (fun c d=>an TP 66 [c] d (bf (fun f a=>aa (mh .not f) fun g=>aq g (K (.ret (I6 5)) a) (K (.ret (I6 0)) a)) (pK K))) (pK K))):=by kernel_rfl
theorem F.bS.k7:F.bS.kg K .ret (sM e 69 h)=(K (.ret (e 4)) h):=by kernel_rfl
theorem F.bS.lD:EV F.bS.L2 (sM e 69 h) J=(aa (jw 3 (e 0) (e 7)) fun b=>aa (au (some 3) b h) fun c=>an TP 43 [c] h (bf (fun g a=>aa (bK .slice g a) fun i=>aa (aF .lss (e 9) i) fun d=>let Q1:=(sL e [(44,e 9),(45,e 0),(46,e 7),(47,b),(48,c),(49,g),(50,i),(51,d),(52,d)]);aq d (aa (aF .leq (e 8) (I6 65536)) fun f=>let Q2:=(sL Q1 [(52,bT),(53,e 8),(52,bT),(54,f),(55,f)]);aq f (fl 0 (e 3) a fun m j=>aa (aF .mul (e 8) j) fun k=>aa (aF .add (e 9) (I6 1)) fun l=>J .normal (sM (sL Q2 [(58,e 8),(59,m),(60,j),(61,k),(8,k),(56,e 9),(57,l),(9,l)]) 69 a)) (J (.exit 4) (sM Q2 69 a))) (J (.exit 4) (sM (sL Q1 [(52,bF),(53,bz),(52,bF),(54,bz),(55,bF)]) 69 a))) (pS J (sL e [(44,e 9),(45,e 0),(46,e 7),(47,b),(48,c)]) 69))):=by kernel_rfl
theorem F.bS.jo:F.bS.xj J (.exit 4) (sM e 69 h)=(aa (aF .gtr (e 8) (I6 65536)) fun a=>aq a (J .ret (sM (sL e [(62,e 8),(63,a),(4,I6 5)]) 69 h)) (aa (aF .add (e 7) (I6 1)) fun b=>J .normal (sM (sL e [(62,e 8),(63,a),(42,e 7),(43,b),(7,b)]) 69 h))):=by kernel_rfl
theorem F.H7:EV (ag Tryz.f23) (sM (ay [a0,a1]) 69 h) (RL Tryz.f23 K)=(aa (eG a1) fun v=>an TP 65 [a0] (hA h v) (bf (fun r l=>aa (mh .not r) fun m=>aq m (K (.ret (I6 1)) l) (aa (au (some 2) (nP h) l) fun s=>an TP 66 [s] l (bf (fun t u=>aa (mh .not t) fun a=>aq a (K (.ret (I6 1)) u) (an TP 35 [a0] u (bf (fun c d=>aa (au (some 2) (nP h) d) fun b=>an TP 68 [a0] d (bf (fun f g=>if ((aa (au (some 2) (nP h) g) fun n=>AV.beq n b)&&true)=true then (an TP 67 [b,f] g (bf (fun i j=>aa (mh .not i) fun k=>aq k (K (.ret (I6 4)) j) (bJ (EV F.bS.L0) (sM (sL (ay [a0,a1]) [(3,nP h),(4,I6 0),(10,a0),(11,r),(12,m),(13,m),(13,bF),(14,s),(13,bF),(15,t),(13,bF),(16,a),(17,a),(18,a0),(19,c),(5,c),(20,b),(21,a0),(22,f),(23,i),(24,k),(6,I6 0)]) 69 j) (F.bS.cK K))) fF)) else false) fF)) (pK K)))) (pK K)))) (pK K))):=by kernel_rfl
theorem F.FT(hh:EV (ag Tryz.f23) (sM (ay [a0,a1]) 69 h) (RL Tryz.f23 K)=true):Sem TP 23 [a0,a1] h K:=
 SB Tryz.func23 hh
noncomputable def F.cQ.L0:=partOf (ag Tryz.f68) [1,1,1,1,0,1,0,0]
noncomputable def F.cQ.cK:=LK 0 Tryz.f68 [1,1,1,1,1]
noncomputable def F.cQ.L1:=partOf (ag Tryz.f68) [1,1,1,1,1,1,0,1,0,0]
noncomputable def F.cQ.kg:=LK 2 Tryz.f68 [1,1,1,1,1,1,1]
theorem F.cQ.aP:EV F.cQ.L0 (sM e 55 h) J=(aa (bK .slice (e 5) h) fun t=>aa (aF .lss (e 6) t) fun u=>let Q1:=(sL e [(13,e 6),(14,e 5),(15,t),(16,u)]);aq u (ou 2 (e 5) (e 6) 0 h fun d f a=>an TP 86 [(e 3),a] h (bf (fun g b=>aa (mh .not g) fun i=>let Q2:=(sL Q1 [(19,e 3),(20,e 5),(21,e 6),(22,d),(23,f),(24,a),(25,g),(26,i)]);aq i (ou 2 (e 5) (e 6) 0 b fun j k c=>an TP 79 [(e 4),c] b (bf (fun l o=>aa (aF .add (e 6) (I6 1)) fun m=>J .normal (sM (sL Q2 [(27,e 4),(28,e 5),(29,e 6),(30,j),(31,k),(32,c),(33,l),(4,l),(17,e 6),(18,m),(6,m)]) 55 o)) (pS J (sL Q2 [(27,e 4),(28,e 5),(29,e 6),(30,j),(31,k),(32,c)]) 55))) (aa (aF .add (e 6) (I6 1)) fun n=>J .normal (sM (sL Q2 [(17,e 6),(18,n),(6,n)]) 55 b))) (pS J (sL Q1 [(19,e 3),(20,e 5),(21,e 6),(22,d),(23,f),(24,a)]) 55))) (J (.exit 0) (sM Q1 55 h))):=by kernel_rfl
theorem F.cQ.aC:F.cQ.cK K (.exit 0) (sM e 55 h)=(bJ (EV F.cQ.L1) (sM (sL e [(7,.ai),(8,I6 0)]) 55 h) (F.cQ.kg K)):=by kernel_rfl
theorem F.cQ.cU:EV F.cQ.L1 (sM e 55 h) J=(aa (bK .slice (e 4) h) fun c=>aa (aF .lss (e 8) c) fun d=>let Q1:=(sL e [(34,e 8),(35,e 4),(36,c),(37,d)]);aq d (il 1 (e 4) (e 8) h fun f b=>il 1 (e 4) (e 8) h fun m g=>an TP 116 [(e 0),g] h (bf (fun i a=>if ((aa (au none f a) fun n=>AV.beq n b)&&true)=true then (aa (iP [(.str []),(I6 0)] [(0,1),(1,1)] [b,i]) fun j=>aa (eN [(.str []),(I6 0)] [(0,2)] [j]) fun o=>cG (bB 2 24 (e 7) (.slice (Heap.next a) 0 1 2) (hA a o)) fun k p=>aa (aF .add (e 8) (I6 1)) fun l=>J .normal (sM (sL Q1 [(40,e 7),(41,e 4),(42,e 8),(43,f),(44,b),(45,e 0),(46,e 4),(47,e 8),(48,m),(49,g),(50,i),(51,j),(52,.slice (Heap.next a) 0 1 2),(53,k),(7,k),(38,e 8),(39,l),(8,l)]) 55 p)) else false) fF)) (J (.exit 2) (sM Q1 55 h))):=by kernel_rfl
theorem F.cQ.cm:F.cQ.kg K (.exit 2) (sM e 55 h)=(K (.ret (e 7)) h):=by kernel_rfl
theorem F.DQ:EV (ag Tryz.f68) (sM (ay [a0]) 55 h) (RL Tryz.f68 K)=(an TP 35 [a0] h (bf (fun a c=>an TP 113 [a0] c (bf (fun b d=>bJ (EV F.cQ.L0) (sM (sL (ay [a0]) [(2,.ai),(9,a0),(10,a),(3,a),(4,.ai),(11,a0),(12,b),(5,b),(6,I6 0)]) 55 d) (F.cQ.cK K)) (pK K))) (pK K))):=by kernel_rfl
theorem F.CG(hh:EV (ag Tryz.f68) (sM (ay [a0]) 55 h) (RL Tryz.f68 K)=true):Sem TP 68 [a0] h K:=
 SB Tryz.func68 hh
noncomputable def F.eV.L0:=partOf (ag Tryz.f116) [1,1,0,1,0,0]
noncomputable def F.eV.cK:=LK 0 Tryz.f116 [1,1,1]
theorem F.eV.aP:EV F.eV.L0 (sM e 27 h) J=(aa (bK .slice (e 5) h) fun f=>aa (aF .lss (e 6) f) fun g=>let Q1:=(sL e [(9,e 6),(10,e 5),(11,f),(12,g)]);aq g (ou 2 (e 5) (e 6) 0 h fun k l i=>aa (jC .string i (e 1)) fun j=>let Q2:=(sL Q1 [(15,e 5),(16,e 6),(17,k),(18,l),(19,i),(20,e 1),(21,j)]);aq j (ou 2 (e 5) (e 6) 1 h fun c d a=>J .ret (sM (sL Q2 [(22,e 5),(23,e 6),(24,c),(25,d),(26,a),(4,a)]) 27 h)) (aa (aF .add (e 6) (I6 1)) fun b=>J .normal (sM (sL Q2 [(13,e 6),(14,b),(6,b)]) 27 h))) (J (.exit 0) (sM Q1 27 h))):=by kernel_rfl
theorem F.eV.aC:F.eV.cK K (.exit 0) (sM e 27 h)=(K (.ret (I6 (-1))) h):=by kernel_rfl
theorem F.eV.bg:F.eV.cK K .ret (sM e 27 h)=(K (.ret (e 4)) h):=by kernel_rfl
theorem F.H9:EV (ag Tryz.f116) (sM (ay [a0,a1]) 27 h) (RL Tryz.f116 K)=(an TP 113 [a0] h (bf (fun a b=>bJ (EV F.eV.L0) (sM (sL (ay [a0,a1]) [(4,I6 0),(7,a0),(8,a),(5,a),(6,I6 0)]) 27 b) (F.eV.cK K)) (pK K))):=by kernel_rfl
theorem F.FU(hh:EV (ag Tryz.f116) (sM (ay [a0,a1]) 27 h) (RL Tryz.f116 K)=true):Sem TP 116 [a0,a1] h K:=
 SB Tryz.func116 hh
noncomputable def F.iG.L0:=partOf (ag Tryz.f70) [1,1,1,0,1,0,0]
noncomputable def F.iG.cK:=LK 0 Tryz.f70 [1,1,1,1]
theorem F.iG.aP:EV F.iG.L0 (sM e 35 h) J=(aa (bK .slice (e 6) h) fun d=>aa (aF .lss (e 7) d) fun f=>let Q1:=(sL e [(12,e 7),(13,e 6),(14,d),(15,f)]);aq f (fl 1 (e 5) h fun g b=>il 1 (e 6) (e 7) h fun i c=>il 1 (e 6) (e 7) h fun p j=>an TP 116 [(e 0),j] h (bf (fun k a=>if ((aa (au none i a) fun q=>AV.beq q c)&&((aa (au none g a) fun r=>AV.beq r b)&&true))=true then (aa (iP [(.str []),(I6 0),.ai] [(0,1),(1,1)] [c,k]) fun l=>aa (eN [(.str []),(I6 0),.ai] [(0,3)] [l]) fun s=>cG (bB 3 48 b (.slice (Heap.next a) 0 1 3) (hA a s)) fun m t=>aa (ja 1 (e 5)) fun n=>aa (aS 1 n m t) fun u=>aa (aF .add (e 7) (I6 1)) fun o=>J .normal (sM (sL Q1 [(18,g),(19,b),(20,e 6),(21,e 7),(22,i),(23,c),(24,e 0),(25,e 6),(26,e 7),(27,p),(28,j),(29,k),(30,l),(31,.slice (Heap.next a) 0 1 3),(32,m),(33,n),(16,e 7),(17,o),(7,o)]) 35 u)) else false) fF)) (J (.exit 0) (sM Q1 35 h))):=by kernel_rfl
theorem F.iG.aC:F.iG.cK K (.exit 0) (sM e 35 h)=(aa (au (some 2) (e 5) h) fun a=>aa (aS 2 (e 4) a h) fun b=>aa (dz TP (sM (cF e 34 a) 35 b) Tryz.f70.results.toList) fun c=>K (.ret (oneOf c)) b):=by kernel_rfl
theorem F.Ia:EV (ag Tryz.f70) (sM (ay [a0,a1]) 35 h) (RL Tryz.f70 K)=(aa (eG a1) fun a=>aa (au (some 2) (nP h) (hA (hA h a) [(I6 0),.ai])) fun d=>an TP 25 [d] (hA (hA h a) [(I6 0),.ai]) (bf (fun f b=>aa (aS 2 (nP b) f (hA b [(I6 0),.ai])) fun i=>an TP 35 [a0] i (bf (fun g j=>bJ (EV F.iG.L0) (sM (sL (ay [a0,a1]) [(3,nP h),(4,.ptr (Heap.next (hA h a)) 0),(8,d),(9,f),(5,nP b),(10,a0),(11,g),(6,g),(7,I6 0)]) 35 j) (F.iG.cK K)) (pK K))) (pK K))):=by kernel_rfl
theorem F.FV(hh:EV (ag Tryz.f70) (sM (ay [a0,a1]) 35 h) (RL Tryz.f70 K)=true):Sem TP 70 [a0,a1] h K:=
 SB Tryz.func70 hh
noncomputable def F.bI.L0:=partOf (ag Tryz.f84) [1,1,1,1,1,0,1,0,0]
noncomputable def F.bI.cK:=LK 0 Tryz.f84 [1,1,1,1,1,1]
noncomputable def F.bI.L1:=partOf (ag Tryz.f84) [1,1,1,1,1,0,1,0,0,1,0,0,1,0,0]
noncomputable def F.bI.kg(J:AX->St->Bool):=(cE 2 (cE 1 (jG false (EV (partOf (ag Tryz.f84) [1,1,1,1,1,0,1,0,0,1,1])) J)))
noncomputable def F.bI.L2:=partOf (ag Tryz.f84) [1,1,1,1,1,1,0,1,0,0]
noncomputable def F.bI.xj:=LK 6 Tryz.f84 [1,1,1,1,1,1,1]
noncomputable def F.bI.L3:=partOf (ag Tryz.f84) [1,1,1,1,1,0,1,0,0,1,0,0,1,0,0,1,0,1,1,0,0]
noncomputable def F.bI.L3k(J:AX->St->Bool):=(cE 4 (cE 3 J))
noncomputable def F.bI.L4:=partOf (ag Tryz.f84) [1,1,1,1,1,1,0,1,0,0,1,0,0,1,1,0,0]
noncomputable def F.bI.L4k(J:AX->St->Bool):=(cE 8 (cE 7 (jG false (EV (partOf (ag Tryz.f84) [1,1,1,1,1,1,0,1,0,0,1,1])) J)))
theorem F.bI.aP:EV F.bI.L0 (sM e 122 h) J=(aa (bK .slice (e 7) h) fun a=>aa (aF .leq (e 10) a) fun b=>let Q1:=(sL e [(29,e 10),(30,e 7),(31,a),(32,b)]);aq b (bJ (EV F.bI.L1) (sM (cF Q1 11 bT) 122 h) (F.bI.kg J)) (J (.exit 0) (sM Q1 122 h))):=by kernel_rfl
theorem F.bI.aC:F.bI.cK K (.exit 0) (sM e 122 h)=(fl 1 (e 3) h fun c a=>aa (bK .slice a h) fun b=>bJ (EV F.bI.L2) (sM (sL e [(71,c),(72,a),(73,b),(14,b)]) 122 h) (F.bI.xj K)):=by kernel_rfl
theorem F.bI.cU:EV F.bI.L1 (sM e 122 h) J=(aq (e 11) (bJ (EV F.bI.L3) (sM (sL e [(35,e 11),(11,bF),(12,I6 0)]) 122 h) (F.bI.L3k J)) (J (.exit 2) (sM (cF e 35 (e 11)) 122 h))):=by kernel_rfl
theorem F.bI.cm:F.bI.kg J (.exit 2) (sM e 122 h)=(aa (aF .add (e 10) (I6 1)) fun a=>J .normal (sM (sL e [(33,e 10),(34,a),(10,a)]) 122 h)):=by kernel_rfl
theorem F.bI.lD:EV F.bI.L2 (sM e 122 h) J=(fl 1 (e 5) h fun j a=>aa (bK .slice a h) fun b=>aa (aF .lss (e 14) b) fun c=>let Q1:=(sL e [(74,e 14),(75,j),(76,a),(77,b),(78,c)]);aq c (fl 0 (e 3) h fun k d=>fl 1 (e 5) h fun l f=>ou 3 f (e 14) 1 h fun m n g=>an TP 32 [d,g] h (bf (fun i o=>bJ (EV F.bI.L4) (sM (sL Q1 [(81,k),(82,d),(83,l),(84,f),(85,e 14),(86,m),(87,n),(88,g),(89,i),(15,i),(16,I6 0)]) 122 o) (F.bI.L4k J)) fF)) (J (.exit 6) (sM Q1 122 h))):=by kernel_rfl
theorem F.bI.WY:F.bI.xj K (.exit 6) (sM e 122 h)=(aa (au (some 2) (e 5) h) fun a=>aa (aS 2 (e 4) a h) fun b=>aa (dz TP (sM (cF e 121 a) 122 b) Tryz.f84.results.toList) fun c=>K (.ret (oneOf c)) b):=by kernel_rfl
theorem F.bI.Ot:EV F.bI.L3 (sM e 122 h) J=(aa (bK .slice (e 0) h) fun j=>aa (aF .lss (e 12) j) fun k=>let Q1:=(sL e [(36,e 12),(37,e 0),(38,j),(39,k)]);aq k (aa (jw 3 (e 0) (e 12)) fun c=>aa (ja 0 c) fun d=>fl 0 d h fun l f=>an TP 128 [(e 7),f] h (bf (fun b a=>il 1 (e 8) b a fun x m=>aa (jC (.int .i64) m (e 10)) fun g=>let Q2:=(sL Q1 [(42,e 7),(43,e 0),(44,e 12),(45,c),(46,d),(47,l),(48,f),(49,b),(13,b),(50,e 8),(51,b),(52,x),(53,m),(54,e 10),(55,g),(56,g)]);aq g (aa (jw 3 (e 0) (e 12)) fun n=>aa (au (some 3) n a) fun o=>fl 1 (e 3) a fun y p=>aa (bK .slice p a) fun q=>aa (aF .add q b) fun r=>fl 0 (e 3) a fun z s=>an TP 129 [o,(e 6),r,s] a (bf (fun i t=>let Q3:=(sL Q2 [(56,bT),(57,e 0),(56,bT),(58,e 12),(56,bT),(59,n),(56,bT),(60,o),(56,bT),(61,e 6),(56,bT),(62,y),(56,bT),(63,p),(56,bT),(64,q),(56,bT),(65,b),(56,bT),(66,r),(56,bT),(67,z),(56,bT),(68,s),(56,bT),(69,i),(70,i)]);aq i (aa (aF .add (e 12) (I6 1)) fun u=>J .normal (sM (sL Q3 [(11,bT),(40,e 12),(41,u),(12,u)]) 122 t)) (aa (aF .add (e 12) (I6 1)) fun v=>J .normal (sM (sL Q3 [(40,e 12),(41,v),(12,v)]) 122 t))) fF)) (aa (aF .add (e 12) (I6 1)) fun w=>J .normal (sM (sL Q2 [(56,bF),(57,bz),(56,bF),(58,bz),(56,bF),(59,bz),(56,bF),(60,bz),(56,bF),(61,bz),(56,bF),(62,bz),(56,bF),(63,bz),(56,bF),(64,bz),(56,bF),(65,bz),(56,bF),(66,bz),(56,bF),(67,bz),(56,bF),(68,bz),(56,bF),(69,bz),(70,bF),(40,e 12),(41,w),(12,w)]) 122 a))) (pS J (sL Q1 [(42,e 7),(43,e 0),(44,e 12),(45,c),(46,d),(47,l),(48,f)]) 122))) (J (.exit 4) (sM Q1 122 h))):=by kernel_rfl
theorem F.bI.WZ:F.bI.L3k J (.exit 4) (sM e 122 h)=(J .normal (sM e 122 h)):=by kernel_rfl
theorem F.bI.Ou:EV F.bI.L4 (sM e 122 h) J=(aa (bK .slice (e 15) h) fun b=>aa (aF .lss (e 16) b) fun c=>let Q1:=(sL e [(90,e 16),(91,e 15),(92,b),(93,c)]);aq c (ou 3 (e 6) (e 14) 2 h fun r s d=>il 1 d (e 16) h fun t f=>let Q2:=(sL Q1 [(96,e 6),(97,e 14),(98,r),(99,s),(100,d),(101,e 16),(102,t),(103,f)]);aq f (fl 1 (e 5) h fun g a=>fl 1 (e 5) h fun u i=>ou 3 i (e 14) 2 h fun v w j=>il 1 (e 15) (e 16) h fun x k=>aa (eN [.ai] [(0,1)] [k]) fun y=>cG (bB 1 24 j (.slice (Heap.next h) 0 1 1) (hA h y)) fun l m=>if ((aa (au none g m) fun z=>AV.beq z a)&&true)=true then (aa (jw 3 a (e 14)) fun n=>aa (ja 2 n) fun o=>aa (aS 1 o l m) fun A=>aa (aF .add (e 16) (I6 1)) fun p=>J .normal (sM (sL Q2 [(104,g),(105,a),(106,e 14),(107,u),(108,i),(109,e 14),(110,v),(111,w),(112,j),(113,e 15),(114,e 16),(115,x),(116,k),(117,.slice (Heap.next h) 0 1 1),(118,l),(119,n),(120,o),(94,e 16),(95,p),(16,p)]) 122 A)) else false) (aa (aF .add (e 16) (I6 1)) fun q=>J .normal (sM (sL Q2 [(94,e 16),(95,q),(16,q)]) 122 h))) (J (.exit 8) (sM Q1 122 h))):=by kernel_rfl
theorem F.bI.HN:F.bI.L4k J (.exit 8) (sM e 122 h)=(aa (aF .add (e 14) (I6 1)) fun a=>J .normal (sM (sL e [(79,e 14),(80,a),(14,a)]) 122 h)):=by kernel_rfl
theorem F.Mx:EV (ag Tryz.f84) (sM (ay [a0,a1]) 122 h) (RL Tryz.f84 K)=(aa (eG a1) fun g=>aa (au (some 2) (nP h) (hA (hA h g) [(I6 0),.ai])) fun q=>an TP 70 [a0,q] (hA (hA h g) [(I6 0),.ai]) (bf (fun r f=>aa (aS 2 (nP f) r (hA f [(I6 0),.ai])) fun s=>aa (au (some 2) (nP f) s) fun t=>an TP 122 [t] s (bf (fun u v=>an TP 35 [a0] v (bf (fun b i=>an TP 114 [a0] i (bf (fun a j=>aa (bu a 0) fun c=>aa (bu a 1) fun d=>bJ (EV F.bI.L0) (sM (sL (ay [a0,a1]) [(3,nP h),(4,.ptr (Heap.next (hA h g)) 0),(17,a0),(18,q),(19,r),(5,nP f),(20,t),(21,u),(6,u),(22,a0),(23,b),(7,b),(25,a0),(26,a),(24,a),(27,c),(28,d),(8,c),(9,d),(10,I6 0)]) 122 j) (F.bI.cK K)) (pK K))) (pK K))) (pK K))) (pK K))):=by kernel_rfl
theorem F.JW(hh:EV (ag Tryz.f84) (sM (ay [a0,a1]) 122 h) (RL Tryz.f84 K)=true):Sem TP 84 [a0,a1] h K:=
 SB Tryz.func84 hh
noncomputable def F.iH.L0:=partOf (ag Tryz.f129) [1,1,1,1,0,0]
noncomputable def F.iH.cK(K:Out->Heap->Bool):=(cE 0 (RL Tryz.f129 K))
theorem F.iH.aP:EV F.iH.L0 (sM e 55 h) J=(aa (ja 0 (e 4)) fun A=>fl 1 A h fun d c=>an TP 161 [(e 9),c,(e 10)] h (bf (fun f B=>an TP 164 [(e 3),f] B (bf (fun a b=>ou 3 (e 1) (e 2) 2 b fun C D n=>il 1 n a b fun E o=>aa (mh .not o) fun g=>let Q1:=(sL e [(18,e 3),(19,e 9),(20,A),(21,d),(22,c),(23,e 10),(24,f),(25,a),(12,a),(26,e 1),(27,e 2),(28,C),(29,D),(30,n),(31,a),(32,E),(33,o),(34,g),(35,g)]);aq g (aa (au (some 3) (e 4) b) fun i=>an TP 124 [i,(e 9),(e 10),(e 1),(e 3)] b (bf (fun j k=>let Q2:=(sL Q1 [(35,bT),(36,i),(35,bT),(37,e 9),(35,bT),(38,e 10),(35,bT),(39,e 1),(35,bT),(40,e 3),(35,bT),(41,j),(42,j)]);aq j (ou 3 (e 1) (e 2) 2 k fun p q l=>aa (jw 1 l a) fun m=>aa (aS 1 m bT k) fun G=>an TP 165 [(e 10),(e 3)] G (bf (fun r s=>aa (mh .not r) fun t=>let Q3:=(sL Q2 [(43,e 1),(44,e 2),(45,p),(46,q),(47,l),(48,a),(49,m),(11,bT),(50,e 10),(51,e 3),(52,r),(53,t)]);aq t (J .ret (sM (sL Q3 [(54,bT),(8,bT)]) 55 s)) (J .normal (sM Q3 55 s))) (pS J (sL Q2 [(43,e 1),(44,e 2),(45,p),(46,q),(47,l),(48,a),(49,m),(11,bT),(50,e 10),(51,e 3)]) 55))) (an TP 165 [(e 10),(e 3)] k (bf (fun u v=>aa (mh .not u) fun w=>let Q4:=(sL Q2 [(50,e 10),(51,e 3),(52,u),(53,w)]);aq w (J .ret (sM (sL Q4 [(54,e 11),(8,e 11)]) 55 v)) (J .normal (sM Q4 55 v))) (pS J (sL Q2 [(50,e 10),(51,e 3)]) 55)))) (pS J (sL Q1 [(35,bT),(36,i),(35,bT),(37,e 9),(35,bT),(38,e 10),(35,bT),(39,e 1),(35,bT),(40,e 3),(35,bT)]) 55))) (an TP 165 [(e 10),(e 3)] b (bf (fun x y=>aa (mh .not x) fun z=>let Q5:=(sL Q1 [(35,bF),(36,bz),(35,bF),(37,bz),(35,bF),(38,bz),(35,bF),(39,bz),(35,bF),(40,bz),(35,bF),(41,bz),(42,bF),(50,e 10),(51,e 3),(52,x),(53,z)]);aq z (J .ret (sM (sL Q5 [(54,e 11),(8,e 11)]) 55 y)) (J .normal (sM Q5 55 y))) (pS J (sL Q1 [(35,bF),(36,bz),(35,bF),(37,bz),(35,bF),(38,bz),(35,bF),(39,bz),(35,bF),(40,bz),(35,bF),(41,bz),(42,bF),(50,e 10),(51,e 3)]) 55)))) (pS J (sL e [(18,e 3),(19,e 9),(20,A),(21,d),(22,c),(23,e 10),(24,f)]) 55))) (pS J (sL e [(18,e 3),(19,e 9),(20,A),(21,d),(22,c),(23,e 10)]) 55))):=by kernel_rfl
theorem F.iH.bg:F.iH.cK K .ret (sM e 55 h)=(K (.ret (e 8)) h):=by kernel_rfl
theorem F.Ib:EV (ag Tryz.f129) (sM (ay [a0,a1,a2,a3]) 55 h) (RL Tryz.f129 K)=(aa (eG a0) fun c=>aa (au (some 3) (nP h) (hA h c)) fun d=>an TP 43 [d] (hA h c) (bf (fun a f=>aa (bK .slice a f) fun b=>cG (gE 1 8 [(I6 0)] b b f) fun g i=>bJ (EV F.iH.L0) (sM (sL (ay [a0,a1,a2,a3]) [(4,nP h),(8,bF),(13,d),(14,a),(9,a),(15,a),(16,b),(17,g),(10,g),(11,bF)]) 55 i) (F.iH.cK K)) (pK K))):=by kernel_rfl
theorem F.FW(hh:EV (ag Tryz.f129) (sM (ay [a0,a1,a2,a3]) 55 h) (RL Tryz.f129 K)=true):Sem TP 129 [a0,a1,a2,a3] h K:=
 SB Tryz.func129 hh
noncomputable def F.iR.L0:=partOf (ag Tryz.f165) [1,0,1,0,0]
noncomputable def F.iR.cK:=LK 0 Tryz.f165 [1,1]
theorem F.iR.aP:EV F.iR.L0 (sM e 28 h) J=(aa (aF .geq (e 5) (I6 0)) fun g=>let Q1:=(sL e [(9,e 5),(10,g)]);aq g (il 1 (e 0) (e 5) h fun m i=>aa (aF .add i (I6 1)) fun j=>aa (jw 1 (e 0) (e 5)) fun k=>aa (aS 1 k j h) fun d=>il 1 (e 0) (e 5) d fun n l=>aa (aF .lss l (e 1)) fun a=>let Q2:=(sL Q1 [(13,e 0),(14,e 5),(15,m),(16,i),(17,j),(18,k),(19,e 0),(20,e 5),(21,n),(22,l),(23,e 1),(24,a)]);aq a (J .ret (sM (cF Q2 4 bT) 28 d)) (aa (jw 1 (e 0) (e 5)) fun b=>aa (aS 1 b (I6 0) d) fun f=>aa (aF .sub (e 5) (I6 1)) fun c=>J .normal (sM (sL Q2 [(25,e 0),(26,e 5),(27,b),(11,e 5),(12,c),(5,c)]) 28 f))) (J (.exit 0) (sM Q1 28 h))):=by kernel_rfl
theorem F.iR.aC:F.iR.cK K (.exit 0) (sM e 28 h)=(K (.ret bF) h):=by kernel_rfl
theorem F.iR.bg:F.iR.cK K .ret (sM e 28 h)=(K (.ret (e 4)) h):=by kernel_rfl
theorem F.JX:EV (ag Tryz.f165) (sM (ay [a0,a1]) 28 h) (RL Tryz.f165 K)=(aa (bK .slice a0 h) fun a=>aa (aF .sub a (I6 1)) fun b=>bJ (EV F.iR.L0) (sM (sL (ay [a0,a1]) [(4,bF),(6,a0),(7,a),(8,b),(5,b)]) 28 h) (F.iR.cK K)):=by kernel_rfl
theorem F.Ic(hh:EV (ag Tryz.f165) (sM (ay [a0,a1]) 28 h) (RL Tryz.f165 K)=true):Sem TP 165 [a0,a1] h K:=
 SB Tryz.func165 hh
noncomputable def F.jg.L0:=partOf (ag Tryz.f164) [1,1,0,1,0,0]
noncomputable def F.jg.cK:=LK 0 Tryz.f164 [1,1,1]
theorem F.jg.aP:EV F.jg.L0 (sM e 22 h) J=(aa (bK .slice (e 1) h) fun a=>aa (aF .lss (e 6) a) fun b=>let Q1:=(sL e [(7,e 6),(8,e 1),(9,a),(10,b)]);aq b (aa (aF .mul (e 5) (e 0)) fun c=>il 1 (e 1) (e 6) h fun i d=>aa (aF .add c d) fun f=>aa (aF .add (e 6) (I6 1)) fun g=>J .normal (sM (sL Q1 [(13,e 5),(14,e 0),(15,c),(16,e 1),(17,e 6),(18,i),(19,d),(20,f),(5,f),(11,e 6),(12,g),(6,g)]) 22 h)) (J (.exit 0) (sM Q1 22 h))):=by kernel_rfl
theorem F.jg.aC:F.jg.cK K (.exit 0) (sM e 22 h)=(K (.ret (e 5)) h):=by kernel_rfl
theorem F.JY:EV (ag Tryz.f164) (sM (ay [a0,a1]) 22 h) (RL Tryz.f164 K)=(bJ (EV F.jg.L0) (sM (sL (ay [a0,a1]) [(4,I6 0),(5,I6 0),(6,I6 0)]) 22 h) (F.jg.cK K)):=by kernel_rfl
theorem F.Ie(hh:EV (ag Tryz.f164) (sM (ay [a0,a1]) 22 h) (RL Tryz.f164 K)=true):Sem TP 164 [a0,a1] h K:=
 SB Tryz.func164 hh
noncomputable def F.ir.L0:=partOf (ag Tryz.f161) [1,1,0,1,0,0]
noncomputable def F.ir.cK:=LK 0 Tryz.f161 [1,1,1]
theorem F.ir.aP:EV F.ir.L0 (sM e 31 h) J=(aa (bK .slice (e 1) h) fun j=>aa (aF .lss (e 8) j) fun k=>let Q1:=(sL e [(12,e 8),(13,e 1),(14,j),(15,k)]);aq k (il 1 (e 1) (e 8) h fun l d=>an TP 128 [(e 0),d] h (bf (fun m n=>il 1 (e 2) m n fun f a=>aa (jw 1 (e 7) (e 8)) fun b=>aa (aS 1 b a n) fun g=>aa (aF .add (e 8) (I6 1)) fun c=>J .normal (sM (sL Q1 [(18,e 7),(19,e 8),(20,e 2),(21,e 0),(22,e 1),(23,e 8),(24,l),(25,d),(26,m),(27,f),(28,a),(29,b),(16,e 8),(17,c),(8,c)]) 31 g)) (pS J (sL Q1 [(18,e 7),(19,e 8),(20,e 2),(21,e 0),(22,e 1),(23,e 8),(24,l),(25,d)]) 31))) (J (.exit 0) (sM Q1 31 h))):=by kernel_rfl
theorem F.ir.aC:F.ir.cK K (.exit 0) (sM e 31 h)=(K (.ret (e 7)) h):=by kernel_rfl
theorem F.FX:EV (ag Tryz.f161) (sM (ay [a0,a1,a2]) 31 h) (RL Tryz.f161 K)=(aa (bK .slice a1 h) fun a=>cG (gE 1 8 [(I6 0)] a a h) fun b c=>bJ (EV F.ir.L0) (sM (sL (ay [a0,a1,a2]) [(6,.ai),(9,a1),(10,a),(11,b),(7,b),(8,I6 0)]) 31 c) (F.ir.cK K)):=by kernel_rfl
theorem F.DR(hh:EV (ag Tryz.f161) (sM (ay [a0,a1,a2]) 31 h) (RL Tryz.f161 K)=true):Sem TP 161 [a0,a1,a2] h K:=
 SB Tryz.func161 hh
noncomputable def F.jW.L0:=partOf (ag Tryz.f162) [1,0,1,0,0]
noncomputable def F.jW.cK:=LK 0 Tryz.f162 [1,1]
theorem F.jW.aP:EV F.jW.L0 (sM e 33 h) J=(aa (bK .slice (e 0) h) fun i=>aa (aF .lss (e 9) i) fun j=>let Q1:=(sL e [(10,e 9),(11,e 0),(12,i),(13,j)]);aq j (ou 3 (e 0) (e 9) 0 h fun o p k=>aa (jC .string k (e 2)) fun l=>let Q2:=(sL Q1 [(16,e 0),(17,e 9),(18,o),(19,p),(20,k),(21,e 2),(22,l)]);aq l (ou 3 (e 0) (e 9) 2 h fun q m d=>an TP 164 [(e 1),(e 3)] h (bf (fun n a=>if ((aa (au none m a) fun f=>AV.beq f d)&&true)=true then (il 1 d n a fun g b=>J .ret (sM (sL Q2 [(23,e 0),(24,e 9),(25,q),(26,m),(27,d),(28,e 1),(29,e 3),(30,n),(31,g),(32,b),(8,b)]) 33 a)) else false) fF)) (aa (aF .add (e 9) (I6 1)) fun c=>J .normal (sM (sL Q2 [(14,e 9),(15,c),(9,c)]) 33 h))) (J (.exit 0) (sM Q1 33 h))):=by kernel_rfl
theorem F.jW.aC:F.jW.cK K (.exit 0) (sM e 33 h)=(K (.ret bF) h):=by kernel_rfl
theorem F.jW.bg:F.jW.cK K .ret (sM e 33 h)=(K (.ret (e 8)) h):=by kernel_rfl
theorem F.Ow:EV (ag Tryz.f162) (sM (ay [a0,a1,a2,a3]) 33 h) (RL Tryz.f162 K)=(bJ (EV F.jW.L0) (sM (sL (ay [a0,a1,a2,a3]) [(8,bF),(9,I6 0)]) 33 h) (F.jW.cK K)):=by kernel_rfl
theorem F.My(hh:EV (ag Tryz.f162) (sM (ay [a0,a1,a2,a3]) 33 h) (RL Tryz.f162 K)=true):Sem TP 162 [a0,a1,a2,a3] h K:=
 SB Tryz.func162 hh
noncomputable def F.dJ.L0:=partOf (ag Tryz.f124) [1,0,1,0,0]
noncomputable def F.dJ.cK:=LK 0 Tryz.f124 [1,1]
theorem F.dJ.aP:EV F.dJ.L0 (sM e 64 h) J=(fl 2 (e 5) h fun x1 Y=>aa (bK .slice Y h) fun Z=>aa (aF .lss (e 11) Z) fun x4=>let Q1:=(sL e [(15,e 11),(16,x1),(17,Y),(18,Z),(19,x4)]);aq x4 (fl 2 (e 5) h fun x5 E=>aa (jw 4 E (e 11)) fun G=>aa (au (some 4) G h) fun I=>aa (aS 4 (nP h) I (hA h [(I6 0),bF,(.str []),.ai])) fun h9=>aa (ja 2 (nP h)) fun g=>fl 1 g h9 fun p i=>an TP 161 [(e 1),i,(e 2)] h9 (bf (fun a b=>fl 0 (nP h) b fun L j=>aa (jC (.int .i64) j (I6 0)) fun k=>let Q2:=(sL Q1 [(22,x5),(23,E),(24,e 11),(25,G),(26,I),(12,nP h),(27,e 1),(28,g),(29,p),(30,i),(31,e 2),(32,a),(13,a),(14,bF),(33,L),(34,j),(43,k),(42,k)]);aq k (aa (ja 2 (nP h)) fun l=>fl 0 l b fun q m=>an TP 162 [(e 3),(e 4),m,a] b (bf (fun c n=>fl 1 (nP h) n fun M r=>aa (jC .bool c r) fun s=>let Q3:=(sL Q2 [(44,e 3),(45,e 4),(46,l),(47,q),(48,m),(49,a),(50,c),(14,c),(60,c),(61,M),(62,r),(63,s)]);aq s (J .ret (sM (cF Q3 10 bF) 64 n)) (aa (aF .add (e 11) (I6 1)) fun t=>J .normal (sM (sL Q3 [(20,e 11),(21,t),(11,t)]) 64 n))) (pS J (sL Q2 [(44,e 3),(45,e 4),(46,l),(47,q),(48,m),(49,a)]) 64))) (aa (jC (.int .i64) j (I6 1)) fun o=>let Q4:=(sL Q2 [(52,o),(51,o)]);aq o (il 1 a (I6 0) b fun P u=>il 1 a (I6 1) b fun R v=>aa (jC (.int .i64) u v) fun d=>fl 1 (nP h) b fun S w=>aa (jC .bool d w) fun x=>let Q5:=(sL Q4 [(53,a),(54,P),(55,u),(56,a),(57,R),(58,v),(59,d),(14,d),(60,d),(61,S),(62,w),(63,x)]);aq x (J .ret (sM (cF Q5 10 bF) 64 b)) (aa (aF .add (e 11) (I6 1)) fun y=>J .normal (sM (sL Q5 [(20,e 11),(21,y),(11,y)]) 64 b))) (il 1 a (I6 0) b fun T z=>il 1 a (I6 1) b fun U A=>aa (aF .lss z A) fun f=>fl 1 (nP h) b fun V B=>aa (jC .bool f B) fun C=>let Q6:=(sL Q4 [(35,a),(36,T),(37,z),(38,a),(39,U),(40,A),(41,f),(14,f),(60,f),(61,V),(62,B),(63,C)]);aq C (J .ret (sM (cF Q6 10 bF) 64 b)) (aa (aF .add (e 11) (I6 1)) fun D=>J .normal (sM (sL Q6 [(20,e 11),(21,D),(11,D)]) 64 b))))) (pS J (sL Q1 [(22,x5),(23,E),(24,e 11),(25,G),(26,I),(12,nP h),(27,e 1),(28,g),(29,p),(30,i),(31,e 2)]) 64))) (J (.exit 0) (sM Q1 64 h))):=by kernel_rfl
theorem F.dJ.aC:F.dJ.cK K (.exit 0) (sM e 64 h)=(K (.ret bT) h):=by kernel_rfl
theorem F.dJ.bg:F.dJ.cK K .ret (sM e 64 h)=(K (.ret (e 10)) h):=by kernel_rfl
theorem F.DS{a4:AV}:EV (ag Tryz.f124) (sM (ay [a0,a1,a2,a3,a4]) 64 h) (RL Tryz.f124 K)=(aa (eG a0) fun a=>bJ (EV F.dJ.L0) (sM (sL (ay [a0,a1,a2,a3,a4]) [(5,nP h),(10,bF),(11,I6 0)]) 64 (hA h a)) (F.dJ.cK K)):=by kernel_rfl
theorem F.CH{a4:AV}(hh:EV (ag Tryz.f124) (sM (ay [a0,a1,a2,a3,a4]) 64 h) (RL Tryz.f124 K)=true):Sem TP 124 [a0,a1,a2,a3,a4] h K:=
 SB Tryz.func124 hh
noncomputable def F.kL.L0:=partOf (ag Tryz.f16) [1,1,0,1,0,0]
noncomputable def F.kL.cK:=LK 0 Tryz.f16 [1,1,1]
theorem F.kL.aP:EV F.kL.L0 (sM e 59 h) J=(fl 1 (e 2) h fun C m=>aa (bK .slice m h) fun n=>aa (aF .lss (e 5) n) fun o=>let Q1:=(sL e [(22,e 5),(23,C),(24,m),(25,n),(26,o)]);aq o (fl 1 (e 2) h fun D p=>aa (jw 3 p (e 5)) fun q=>aa (au (some 3) q h) fun r=>fl 1 (e 3) h fun s c=>aa (jw 3 c (e 5)) fun d=>aa (au (some 3) d h) fun f=>aa (aS 3 (nP h) r (hA (hA h [(.str []),(I6 0),.ai]) [(.str []),(I6 0),.ai])) fun g=>if ((aa (au (some 3) d g) fun E=>AV.beq E f)&&((aa (au none s g) fun G=>AV.beq G c)&&true))=true then (aa (aS 3 (.ptr (Heap.next (hA h [(.str []),(I6 0),.ai])) 0) f g) fun a=>fl 0 (nP h) a fun I t=>fl 0 (.ptr (Heap.next (hA h [(.str []),(I6 0),.ai])) 0) a fun L u=>aa (qE .string t u) fun i=>let Q2:=(sL Q1 [(29,D),(30,p),(31,e 5),(32,q),(33,r),(34,s),(35,c),(36,e 5),(37,d),(38,f),(6,nP h),(7,.ptr (Heap.next (hA h [(.str []),(I6 0),.ai])) 0),(39,I),(40,t),(41,L),(42,u),(43,i),(44,i)]);aq i (J .ret (sM (sL Q2 [(44,bT),(45,bz),(44,bT),(46,bz),(44,bT),(47,bz),(44,bT),(48,bz),(44,bT),(49,bz),(50,bT),(51,bT),(51,bT),(52,bz),(51,bT),(53,bz),(51,bT),(54,bz),(51,bT),(55,bz),(51,bT),(56,bz),(51,bT),(57,bz),(58,bT),(4,bF)]) 59 a)) (fl 1 (nP h) a fun M v=>fl 1 (.ptr (Heap.next (hA h [(.str []),(I6 0),.ai])) 0) a fun N w=>aa (qE (.int .i64) v w) fun b=>let Q3:=(sL Q2 [(44,bF),(45,M),(44,bF),(46,v),(44,bF),(47,N),(44,bF),(48,w),(44,bF),(49,b),(50,b),(51,b)]);aq b (J .ret (sM (sL Q3 [(51,bT),(52,bz),(51,bT),(53,bz),(51,bT),(54,bz),(51,bT),(55,bz),(51,bT),(56,bz),(51,bT),(57,bz),(58,bT),(4,bF)]) 59 a)) (fl 2 (nP h) a fun x j=>fl 2 (.ptr (Heap.next (hA h [(.str []),(I6 0),.ai])) 0) a fun y k=>an TP 51 [j,k] a (bf (fun z A=>aa (mh .not z) fun l=>let Q4:=(sL Q3 [(51,bF),(52,x),(51,bF),(53,j),(51,bF),(54,y),(51,bF),(55,k),(51,bF),(56,z),(51,bF),(57,l),(58,l)]);aq l (J .ret (sM (cF Q4 4 bF) 59 A)) (aa (aF .add (e 5) (I6 1)) fun B=>J .normal (sM (sL Q4 [(27,e 5),(28,B),(5,B)]) 59 A))) (pS J (sL Q3 [(51,bF),(52,x),(51,bF),(53,j),(51,bF),(54,y),(51,bF),(55,k),(51,bF)]) 59))))) else false) (J (.exit 0) (sM Q1 59 h))):=by kernel_rfl
theorem F.kL.aC:F.kL.cK K (.exit 0) (sM e 59 h)=(K (.ret bT) h):=by kernel_rfl
theorem F.JZ:EV (ag Tryz.f16) (sM (ay [a0,a1]) 59 h) (RL Tryz.f16 K)=(aa (eG a0) fun a=>aa (eG a1) fun b=>fl 0 (nP h) (hA (hA h a) b) fun n j=>fl 0 (.ptr (Heap.next (hA h a)) 0) (hA (hA h a) b) fun o k=>aa (qE (.int .i64) j k) fun g=>aq g (K (.ret bF) (hA (hA h a) b)) (fl 1 (nP h) (hA (hA h a) b) fun p l=>aa (bK .slice l (hA (hA h a) b)) fun m=>fl 1 (.ptr (Heap.next (hA h a)) 0) (hA (hA h a) b) fun i d=>aa (bK .slice d (hA (hA h a) b)) fun f=>aa (qE (.int .i64) m f) fun c=>aq c (K (.ret bF) (hA (hA h a) b)) (bJ (EV F.kL.L0) (sM (sL (ay [a0,a1]) [(2,nP h),(3,.ptr (Heap.next (hA h a)) 0),(4,bF),(8,n),(9,j),(10,o),(11,k),(12,g),(13,g),(13,bF),(14,p),(13,bF),(15,l),(13,bF),(16,m),(13,bF),(17,i),(13,bF),(18,d),(13,bF),(19,f),(13,bF),(20,c),(21,c),(5,I6 0)]) 59 (hA (hA h a) b)) (F.kL.cK K)))):=by kernel_rfl
theorem F.Ig(hh:EV (ag Tryz.f16) (sM (ay [a0,a1]) 59 h) (RL Tryz.f16 K)=true):Sem TP 16 [a0,a1] h K:=
 SB Tryz.func16 hh
noncomputable def F.fm.L0:=partOf (ag Tryz.f51) [1,1,0,1,0,0]
noncomputable def F.fm.cK:=LK 0 Tryz.f51 [1,1,1]
theorem F.fm.aP:EV F.fm.L0 (sM e 27 h) J=(aa (bK .slice (e 0) h) fun d=>aa (aF .lss (e 5) d) fun f=>let Q1:=(sL e [(11,e 5),(12,e 0),(13,d),(14,f)]);aq f (il 1 (e 0) (e 5) h fun k g=>il 1 (e 1) (e 5) h fun l i=>an TP 20 [g,i] h (bf (fun j a=>aa (mh .not j) fun b=>let Q2:=(sL Q1 [(17,e 0),(18,e 5),(19,k),(20,g),(21,e 1),(22,e 5),(23,l),(24,i),(25,j),(26,b)]);aq b (J .ret (sM (cF Q2 4 bF) 27 a)) (aa (aF .add (e 5) (I6 1)) fun c=>J .normal (sM (sL Q2 [(15,e 5),(16,c),(5,c)]) 27 a))) fF)) (J (.exit 0) (sM Q1 27 h))):=by kernel_rfl
theorem F.fm.aC:F.fm.cK K (.exit 0) (sM e 27 h)=(K (.ret bT) h):=by kernel_rfl
theorem F.Ap:EV (ag Tryz.f51) (sM (ay [a0,a1]) 27 h) (RL Tryz.f51 K)=(aa (bK .slice a0 h) fun a=>aa (bK .slice a1 h) fun b=>aa (qE (.int .i64) a b) fun c=>aq c (K (.ret bF) h) (bJ (EV F.fm.L0) (sM (sL (ay [a0,a1]) [(4,bF),(6,a0),(7,a),(8,a1),(9,b),(10,c),(5,I6 0)]) 27 h) (F.fm.cK K))):=by kernel_rfl
theorem F.yz(hh:EV (ag Tryz.f51) (sM (ay [a0,a1]) 27 h) (RL Tryz.f51 K)=true):Sem TP 51 [a0,a1] h K:=
 SB Tryz.func51 hh
noncomputable def F.dD.L0:=partOf (ag Tryz.f10) [1,1,1,1,0,1,0,0]
noncomputable def F.dD.cK:=LK 0 Tryz.f10 [1,1,1,1,1]
noncomputable def F.dD.L1:=partOf (ag Tryz.f10) [1,1,1,1,0,1,0,0,1,0,0,1,0,1,0,0]
noncomputable def F.dD.kg(J:AX->St->Bool):=(cE 2 (jG false (EV (partOf (ag Tryz.f10) [1,1,1,1,0,1,0,0,1,0,0,1,1])) (cE 1 (jG false (EV (partOf (ag Tryz.f10) [1,1,1,1,0,1,0,0,1,1])) J))))
theorem F.dD.aP:EV F.dD.L0 (sM e 50 h) J=(aa (bK .slice (e 0) h) fun a=>aa (aF .lss (e 8) a) fun b=>let Q1:=(sL e [(24,e 8),(25,e 0),(26,a),(27,b)]);aq b (bJ (EV F.dD.L1) (sM (sL Q1 [(9,I6 1),(10,I6 0)]) 50 h) (F.dD.kg J)) (J (.exit 0) (sM Q1 50 h))):=by kernel_rfl
theorem F.dD.aC:F.dD.cK K (.exit 0) (sM e 50 h)=(aa (aF .leq (e 7) (e 2)) fun a=>K (.ret a) h):=by kernel_rfl
theorem F.dD.cU:EV F.dD.L1 (sM e 50 h) J=(aa (jw 3 (e 0) (e 8)) fun b=>aa (au (some 3) b h) fun c=>an TP 43 [c] h (bf (fun d a=>aa (bK .slice d a) fun f=>aa (aF .lss (e 10) f) fun g=>let Q1:=(sL e [(30,e 10),(31,e 0),(32,e 8),(33,b),(34,c),(35,d),(36,f),(37,g)]);aq g (fl 0 (e 4) a fun l i=>aa (aF .mul (e 9) i) fun j=>aa (aF .add (e 10) (I6 1)) fun k=>J .normal (sM (sL Q1 [(40,e 9),(41,l),(42,i),(43,j),(9,j),(38,e 10),(39,k),(10,k)]) 50 a)) (J (.exit 2) (sM Q1 50 a))) (pS J (sL e [(30,e 10),(31,e 0),(32,e 8),(33,b),(34,c)]) 50))):=by kernel_rfl
theorem F.dD.cm:F.dD.kg J (.exit 2) (sM e 50 h)=(aa (aF .add (e 7) (e 9)) fun a=>aa (aF .add (e 8) (I6 1)) fun b=>J .normal (sM (sL e [(44,e 7),(45,e 9),(46,a),(7,a),(28,e 8),(29,b),(8,b)]) 50 h)):=by kernel_rfl
theorem F.Ih:EV (ag Tryz.f10) (sM (ay [a0,a1,a2]) 50 h) (RL Tryz.f10 K)=(aa (eG a1) fun r=>an TP 41 [a0,(I6 300)] (hA h r) (bf (fun o b=>aa (mh .not o) fun i=>aq i (K (.ret bF) b) (aa (au (some 2) (nP h) b) fun p=>aa (eN [(I6 0),.ai] [(0,2)] [p]) fun s=>an TP 42 [(.slice (Heap.next b) 0 1 2)] (hA b s) (bf (fun q j=>aa (mh .not q) fun a=>aq a (K (.ret bF) j) (aa (au (some 2) (nP h) j) fun c=>an TP 23 [a0,c] j (bf (fun d f=>aa (qE (.int .i64) d (I6 0)) fun g=>aq g (K (.ret bT) f) (bJ (EV F.dD.L0) (sM (sL (ay [a0,a1,a2]) [(4,nP h),(6,bF),(11,a0),(12,o),(13,i),(14,i),(14,bF),(15,p),(14,bF),(16,.slice (Heap.next b) 0 1 2),(14,bF),(17,q),(14,bF),(18,a),(19,a),(20,a0),(21,c),(22,d),(23,g),(7,I6 0),(8,I6 0)]) 50 f) (F.dD.cK K))) (pK K)))) (pK K)))) (pK K))):=by kernel_rfl
theorem F.FY(hh:EV (ag Tryz.f10) (sM (ay [a0,a1,a2]) 50 h) (RL Tryz.f10 K)=true):Sem TP 10 [a0,a1,a2] h K:=
 SB Tryz.func10 hh
theorem F.Ii:EV (ag Tryz.f60) (sM (ay [a0,a1]) 4 h) (RL Tryz.f60 K)=(aa (eG a0) fun a=>K (.ret (.tuple [])) (hA h a)):=by kernel_rfl
theorem F.FZ(hh:EV (ag Tryz.f60) (sM (ay [a0,a1]) 4 h) (RL Tryz.f60 K)=true):Sem TP 60 [a0,a1] h K:=
 SB Tryz.func60 hh
end
end Go.AM
namespace Go.AM
open List Nat Bool Option
open Go
noncomputable section
def ahI:List AV:=[(.ax [(I6 2),(I6 2),(I6 2)] 0 3 1),(.ax [(I6 0),(I6 2)] 0 2 1)]
def ahJ:AV:=(.ax [(I6 2),(I6 2)] 0 2 1)
theorem aab:cq TP F0 D0 200 121 ahI Heap.empty (cR false 20 ahJ)=true:=by kernel_rfl
def ahK:List AV:=[(.agg [(I6 3),(.ax [(.str [69]),(I6 2),(.ax [(.ax [(I6 0),(I6 1)] 0 2 1),(.ax [(I6 1),(I6 2)] 0 2 1)] 0 2 1)] 0 1 3)]),(.str [69]),(I6 2)]
def ahL:AV:=(I6 0)
theorem aac:cq TP F0 D0 200 53 ahK Heap.empty (cR false 20 ahL)=true:=by kernel_rfl
def ahM:List AV:=[(.agg [(I6 3),(.ax [(.str [69]),(I6 2),(.ax [(.ax [(I6 1),(I6 2)] 0 2 1)] 0 1 1)] 0 1 3)]),(.str [69]),(I6 2)]
def ahN:AV:=(I6 0)
theorem aad:cq TP F0 D0 200 53 ahM Heap.empty (cR true 20 ahN)=true:=by kernel_rfl
def F1:B7:=fun x=>if x=130 then some (nx (lu sA0 sR0) (nx (lu sA1 sR1) (nx (lu sA2 sR2) (nx (lu sA3 sR3) (nx (lu sA4 sR4) (nx (lu sA5 sR5) (nx (lu sA6 sR6) (nx (lu sA7 sR7) (nx (lu sA8 sR8) (nx (lu sA9 sR9) (lu agf agh))))))))))) else if x=53 then some (nx (lu agi agj) (nx (eE 20 ahK ahL) (lu ahM ahN))) else if x=99 then some (lu agk agl) else if x=121 then some (nx (eE 20 agm agn) (nx (eE 20 ago agp) (nx (eE 20 agq agr) (nx (eE 20 ags agt) (nx (eE 20 agu agv) (nx (eE 20 agw agx) (nx (eE 20 agy agz) (nx (eE 20 agA agB) (nx (eE 20 agC agD) (nx (eE 20 agE agF) (nx (eE 20 agG agH) (nx (eE 20 agI agJ) (nx (eE 20 agK agL) (nx (eE 20 agM agN) (nx (eE 20 agO agP) (nx (eE 20 agQ agR) (nx (eE 20 agS agT) (nx (eE 20 agU agV) (nx (eE 20 agW agX) (nx (eE 20 agY agZ) (nx (eE 20 ag0 ag1) (nx (eE 20 ag2 ag3) (nx (eE 20 ag4 ag5) (nx (eE 20 ag6 ag7) (nx (eE 20 ag8 ag9) (nx (eE 20 aha ahb) (nx (eE 20 ahc ahd) (nx (eE 20 ahe ahf) (nx (eE 20 ahg ahh) (nx (eE 20 ahi ahj) (nx (eE 20 ahk ahl) (nx (eE 20 ahm ahn) (nx (eE 20 aho ahp) (nx (eE 20 ahq ahr) (nx (eE 20 ahs aht) (nx (eE 20 ahu ahv) (nx (eE 20 ahw ahx) (nx (eE 20 ahy ahz) (nx (eE 20 ahA ahB) (nx (eE 20 ahC ahD) (nx (eE 20 ahE ahF) (nx (eE 20 ahG ahH) (eE 20 ahI ahJ))))))))))))))))))))))))))))))))))))))))))) else F0 x
theorem Ox:kJ TP F1:=by
 have hs:=nw mixed va yl 200;intro f g hg args h K hK;unfold F1 at hg;split at hg
 ·rename_i e;subst e;cases hg;rcases cN hK with hK|hK
  ·exact dg hs (by kernel_rfl) adR args h K hK
  rcases cN hK with hK|hK
  ·exact dg hs (by kernel_rfl) adS args h K hK
  rcases cN hK with hK|hK
  ·exact dg hs (by kernel_rfl) adT args h K hK
  rcases cN hK with hK|hK
  ·exact dg hs (by kernel_rfl) adU args h K hK
  rcases cN hK with hK|hK
  ·exact dg hs (by kernel_rfl) adV args h K hK
  rcases cN hK with hK|hK
  ·exact dg hs (by kernel_rfl) adW args h K hK
  rcases cN hK with hK|hK
  ·exact dg hs (by kernel_rfl) adX args h K hK
  rcases cN hK with hK|hK
  ·exact dg hs (by kernel_rfl) adY args h K hK
  rcases cN hK with hK|hK
  ·exact dg hs (by kernel_rfl) adZ args h K hK
  rcases cN hK with hK|hK
  ·exact dg hs (by kernel_rfl) ad0 args h K hK
  exact dg hs (by kernel_rfl) Zs args h K hK
 split at hg
 ·rename_i e;subst e;cases hg;rcases cN hK with hK|hK
  ·exact dg hs (by kernel_rfl) Zt args h K hK
  rcases cN hK with hK|hK
  ·exact bh hs aac args h K hK
  exact dg hs (by kernel_rfl) aad args h K hK
 split at hg
 ·rename_i e;subst e;cases hg;exact dg hs (by kernel_rfl) Zu args h K hK
 split at hg
 ·rename_i e;subst e;cases hg;rcases cN hK with hK|hK
  ·exact bh hs Zv args h K hK
  rcases cN hK with hK|hK
  ·exact bh hs Zw args h K hK
  rcases cN hK with hK|hK
  ·exact bh hs Zx args h K hK
  rcases cN hK with hK|hK
  ·exact bh hs Zy args h K hK
  rcases cN hK with hK|hK
  ·exact bh hs Zz args h K hK
  rcases cN hK with hK|hK
  ·exact bh hs ZA args h K hK
  rcases cN hK with hK|hK
  ·exact bh hs ZB args h K hK
  rcases cN hK with hK|hK
  ·exact bh hs ZC args h K hK
  rcases cN hK with hK|hK
  ·exact bh hs ZD args h K hK
  rcases cN hK with hK|hK
  ·exact bh hs ZE args h K hK
  rcases cN hK with hK|hK
  ·exact bh hs ZF args h K hK
  rcases cN hK with hK|hK
  ·exact bh hs ZG args h K hK
  rcases cN hK with hK|hK
  ·exact bh hs ZH args h K hK
  rcases cN hK with hK|hK
  ·exact bh hs ZI args h K hK
  rcases cN hK with hK|hK
  ·exact bh hs ZJ args h K hK
  rcases cN hK with hK|hK
  ·exact bh hs ZK args h K hK
  rcases cN hK with hK|hK
  ·exact bh hs ZL args h K hK
  rcases cN hK with hK|hK
  ·exact bh hs ZM args h K hK
  rcases cN hK with hK|hK
  ·exact bh hs ZN args h K hK
  rcases cN hK with hK|hK
  ·exact bh hs ZO args h K hK
  rcases cN hK with hK|hK
  ·exact bh hs ZP args h K hK
  rcases cN hK with hK|hK
  ·exact bh hs ZQ args h K hK
  rcases cN hK with hK|hK
  ·exact bh hs ZR args h K hK
  rcases cN hK with hK|hK
  ·exact bh hs ZS args h K hK
  rcases cN hK with hK|hK
  ·exact bh hs ZT args h K hK
  rcases cN hK with hK|hK
  ·exact bh hs ZU args h K hK
  rcases cN hK with hK|hK
  ·exact bh hs ZV args h K hK
  rcases cN hK with hK|hK
  ·exact bh hs ZW args h K hK
  rcases cN hK with hK|hK
  ·exact bh hs ZX args h K hK
  rcases cN hK with hK|hK
  ·exact bh hs ZY args h K hK
  rcases cN hK with hK|hK
  ·exact bh hs ZZ args h K hK
  rcases cN hK with hK|hK
  ·exact bh hs Z0 args h K hK
  rcases cN hK with hK|hK
  ·exact bh hs Z1 args h K hK
  rcases cN hK with hK|hK
  ·exact bh hs Z2 args h K hK
  rcases cN hK with hK|hK
  ·exact bh hs Z3 args h K hK
  rcases cN hK with hK|hK
  ·exact bh hs Z4 args h K hK
  rcases cN hK with hK|hK
  ·exact bh hs Z5 args h K hK
  rcases cN hK with hK|hK
  ·exact bh hs Z6 args h K hK
  rcases cN hK with hK|hK
  ·exact bh hs Z7 args h K hK
  rcases cN hK with hK|hK
  ·exact bh hs Z8 args h K hK
  rcases cN hK with hK|hK
  ·exact bh hs Z9 args h K hK
  rcases cN hK with hK|hK
  ·exact bh hs aaa args h K hK
  exact bh hs aab args h K hK
 exact va f g hg args h K hK
def ahO:List AV:=[(.agg [(.str [80]),(.ax [(.str [120]),(.str [121])] 0 2 1)])]
def ahP:AV:=bT
theorem aae:cq TP F1 D0 200 138 ahO Heap.empty (cR false 20 ahP)=true:=by kernel_rfl
def ahQ:List AV:=[(.agg [(.str [80]),(.ax [(.str [120]),(.str [121])] 0 2 1),(.ax [(I6 0),bF,(.str [69]),(.ax [(.str [120]),(.str [121])] 0 2 1)] 0 1 4)])]
def ahR:AV:=(.ax [(.str [120]),(.str [121])] 0 2 1)
theorem aaf:cq TP F1 D0 200 100 ahQ Heap.empty (cR false 20 ahR)=true:=by kernel_rfl
def ahS:List AV:=[(.agg [(I6 0),bF,(.str [69]),(.ax [(.str [120]),(.str [121])] 0 2 1)])]
def ahT:AV:=bT
theorem aag:cq TP F1 D0 200 140 ahS Heap.empty (cR false 20 ahT)=true:=by kernel_rfl
def ahU:List AV:=[(.agg [(.str [80]),(.ax [(.str [120]),(.str [121])] 0 2 1),(.ax [(I6 0),bF,(.str [69]),(.ax [(.str [120]),(.str [122])] 0 2 1),(I6 0),bF,(.str [80]),(.ax [(.str [122]),(.str [121])] 0 2 1)] 0 2 4)])]
def ahV:AV:=(.ax [(.str [120]),(.str [121]),(.str [122])] 0 3 1)
theorem aah:cq TP F1 D0 200 100 ahU Heap.empty (cR false 20 ahV)=true:=by kernel_rfl
def ahW:List AV:=[(.agg [(I6 0),bF,(.str [69]),(.ax [(.str [120]),(.str [122])] 0 2 1)])]
def ahX:AV:=bT
theorem aai:cq TP F1 D0 200 140 ahW Heap.empty (cR false 20 ahX)=true:=by kernel_rfl
def ahY:List AV:=[(.agg [(I6 0),bF,(.str [80]),(.ax [(.str [122]),(.str [121])] 0 2 1)])]
def ahZ:AV:=bT
theorem aaj:cq TP F1 D0 200 140 ahY Heap.empty (cR false 20 ahZ)=true:=by kernel_rfl
def ah0:List AV:=[(.agg [(.str [80]),(.ax [(.str [120]),(.str [121])] 0 2 1)])]
def ah1:AV:=bT
theorem aak:cq TP F1 D0 200 138 ah0 Heap.empty (cR true 20 ah1)=true:=by kernel_rfl
def ah2:List AV:=[(.agg [(.str [80]),(.ax [(.str [120]),(.str [121])] 0 2 1),(.ax [(I6 0),bF,(.str [69]),(.ax [(.str [120]),(.str [121])] 0 2 1)] 0 1 4)])]
def ah3:AV:=(.ax [(.str [120]),(.str [121])] 0 2 1)
theorem aal:cq TP F1 D0 200 100 ah2 Heap.empty (cR true 20 ah3)=true:=by kernel_rfl
def ah4:List AV:=[(.agg [(I6 0),bF,(.str [69]),(.ax [(.str [120]),(.str [121])] 0 2 1)])]
def ah5:AV:=bT
theorem aam:cq TP F1 D0 200 140 ah4 Heap.empty (cR true 20 ah5)=true:=by kernel_rfl
def ah6:List AV:=[(.agg [(.str [80]),(.ax [(.str [120]),(.str [121])] 0 2 1),(.ax [(I6 0),bF,(.str [69]),(.ax [(.str [120]),(.str [122])] 0 2 1),(I6 0),bF,(.str [80]),(.ax [(.str [122]),(.str [121])] 0 2 1)] 0 2 4)])]
def ah7:AV:=(.ax [(.str [120]),(.str [121]),(.str [122])] 0 3 1)
theorem aan:cq TP F1 D0 200 100 ah6 Heap.empty (cR true 20 ah7)=true:=by kernel_rfl
def ah8:List AV:=[(.agg [(I6 0),bF,(.str [69]),(.ax [(.str [120]),(.str [122])] 0 2 1)])]
def ah9:AV:=bT
theorem aao:cq TP F1 D0 200 140 ah8 Heap.empty (cR true 20 ah9)=true:=by kernel_rfl
def aia:List AV:=[(.agg [(I6 0),bF,(.str [80]),(.ax [(.str [122]),(.str [121])] 0 2 1)])]
def aib:AV:=bT
theorem aap:cq TP F1 D0 200 140 aia Heap.empty (cR true 20 aib)=true:=by kernel_rfl
def aic:List AV:=[(.agg [(I6 3),(.ax [(.str [69]),(I6 2),(.ax [(.ax [(I6 0),(I6 1)] 0 2 1),(.ax [(I6 1),(I6 2)] 0 2 1)] 0 2 1)] 0 1 3)])]
def aid:AV:=bT
theorem aaq:cq TP F1 D0 200 64 aic Heap.empty (cR true 20 aid)=true:=by kernel_rfl
def aie:List AV:=[(I6 0),(.agg [(.str [80]),(.ax [(.str [120]),(.str [121])] 0 2 1),(.ax [(I6 0),bF,(.str [69]),(.ax [(.str [120]),(.str [121])] 0 2 1)] 0 1 4)])]
def aif:AV:=(.agg [(I6 0),(.str [80]),(.ax [(.str [120]),(.str [121])] 0 2 1),(.ax [(I6 0),bF,(.str [69]),(.ax [(.str [120]),(.str [121])] 0 2 1)] 0 1 4),(I6 2),(.ax [(I6 0),(I6 1)] 0 2 1),(.ax [(.ax [(I6 0),(I6 1)] 0 2 1)] 0 1 1),(.ax [(I6 1)] 0 1 1)])
theorem aar:cq TP F1 D0 200 102 aie Heap.empty (cR true 20 aif)=true:=by kernel_rfl
def aih:List AV:=[(I6 1),(.agg [(.str [80]),(.ax [(.str [120]),(.str [121])] 0 2 1),(.ax [(I6 0),bF,(.str [69]),(.ax [(.str [120]),(.str [122])] 0 2 1),(I6 0),bF,(.str [80]),(.ax [(.str [122]),(.str [121])] 0 2 1)] 0 2 4)])]
def aii:AV:=(.agg [(I6 1),(.str [80]),(.ax [(.str [120]),(.str [121])] 0 2 1),(.ax [(I6 0),bF,(.str [69]),(.ax [(.str [120]),(.str [122])] 0 2 1),(I6 0),bF,(.str [80]),(.ax [(.str [122]),(.str [121])] 0 2 1)] 0 2 4),(I6 3),(.ax [(I6 0),(I6 1)] 0 2 1),(.ax [(.ax [(I6 0),(I6 2)] 0 2 1),(.ax [(I6 2),(I6 1)] 0 2 1)] 0 2 1),(.ax [(I6 2),(I6 2)] 0 2 1)])
theorem aas:cq TP F1 D0 200 102 aih Heap.empty (cR true 20 aii)=true:=by kernel_rfl
def aij:List AV:=[(.agg [(I6 3),(.ax [(.str [69]),(I6 2),(.ax [(.ax [(I6 0),(I6 1)] 0 2 1),(.ax [(I6 1),(I6 2)] 0 2 1)] 0 2 1)] 0 1 3)])]
def aik:AV:=bT
theorem aat:cq TP F1 D0 200 64 aij Heap.empty (cR false 20 aik)=true:=by kernel_rfl
def ail:List AV:=[(.agg [(I6 3),(.ax [(.str [69]),(I6 2),(.ax [(.ax [(I6 1),(I6 2)] 0 2 1)] 0 1 1)] 0 1 3)])]
def aim:AV:=bT
theorem aau:cq TP F1 D0 200 64 ail Heap.empty (cR true 20 aim)=true:=by kernel_rfl
def F2:B7:=fun x=>if x=138 then some (nx (eE 20 ahO ahP) (lu ah0 ah1)) else if x=100 then some (nx (eE 20 ahQ ahR) (nx (eE 20 ahU ahV) (nx (lu ah2 ah3) (lu ah6 ah7)))) else if x=140 then some (nx (eE 20 ahS ahT) (nx (eE 20 ahW ahX) (nx (eE 20 ahY ahZ) (nx (lu ah4 ah5) (nx (lu ah8 ah9) (lu aia aib)))))) else if x=64 then some (nx (lu aic aid) (nx (eE 20 aij aik) (lu ail aim))) else if x=102 then some (nx (lu aie aif) (lu aih aii)) else F1 x
theorem Oy:kJ TP F2:=by
 have hs:=nw mixed Ox yl 200;intro f g hg args h K hK;unfold F2 at hg;split at hg
 ·rename_i e;subst e;cases hg;rcases cN hK with hK|hK
  ·exact bh hs aae args h K hK
  exact dg hs (by kernel_rfl) aak args h K hK
 split at hg
 ·rename_i e;subst e;cases hg;rcases cN hK with hK|hK
  ·exact bh hs aaf args h K hK
  rcases cN hK with hK|hK
  ·exact bh hs aah args h K hK
  rcases cN hK with hK|hK
  ·exact dg hs (by kernel_rfl) aal args h K hK
  exact dg hs (by kernel_rfl) aan args h K hK
 split at hg
 ·rename_i e;subst e;cases hg;rcases cN hK with hK|hK
  ·exact bh hs aag args h K hK
  rcases cN hK with hK|hK
  ·exact bh hs aai args h K hK
  rcases cN hK with hK|hK
  ·exact bh hs aaj args h K hK
  rcases cN hK with hK|hK
  ·exact dg hs (by kernel_rfl) aam args h K hK
  rcases cN hK with hK|hK
  ·exact dg hs (by kernel_rfl) aao args h K hK
  exact dg hs (by kernel_rfl) aap args h K hK
 split at hg
 ·rename_i e;subst e;cases hg;rcases cN hK with hK|hK
  ·exact dg hs (by kernel_rfl) aaq args h K hK
  rcases cN hK with hK|hK
  ·exact bh hs aat args h K hK
  exact dg hs (by kernel_rfl) aau args h K hK
 split at hg
 ·rename_i e;subst e;cases hg;rcases cN hK with hK|hK
  ·exact dg hs (by kernel_rfl) aar args h K hK
  exact dg hs (by kernel_rfl) aas args h K hK
 exact Ox f g hg args h K hK
def ain:List AV:=[(.str [80,40,120,32,121,41,32,58,45,32,69,40,120,32,121,41,46,10,80,40,120,32,121,41,32,58,45,32,69,40,120,32,122,41,44,32,80,40,122,32,121,41,46,10])]
def aio:AV:=(.tuple [(.ax [(.str [80]),(.ax [(.str [120]),(.str [121])] 0 2 1),(.ax [(I6 0),bF,(.str [69]),(.ax [(.str [120]),(.str [121])] 0 2 1)] 0 1 4),(.str [80]),(.ax [(.str [120]),(.str [121])] 0 2 1),(.ax [(I6 0),bF,(.str [69]),(.ax [(.str [120]),(.str [122])] 0 2 1),(I6 0),bF,(.str [80]),(.ax [(.str [122]),(.str [121])] 0 2 1)] 0 2 4)] 0 2 3),(I6 0)])
theorem aav:cq TP F2 D0 200 44 ain Heap.empty (cR true 20 aio)=true:=by kernel_rfl
def F3:B7:=fun x=>if x=44 then some (lu ain aio) else F2 x
theorem Oz:kJ TP F3:=by
 have hs:=nw mixed Oy yl 200;intro f g hg args h K hK;unfold F3 at hg;split at hg
 ·rename_i e;subst e;cases hg;exact dg hs (by kernel_rfl) aav args h K hK
 exact Oy f g hg args h K hK
def aip:List AV:=[(.agg [(I6 3),(.ax [(.str [69]),(I6 2),(.ax [(.ax [(I6 0),(I6 1)] 0 2 1),(.ax [(I6 1),(I6 2)] 0 2 1)] 0 2 1)] 0 1 3)]),(.str [69]),(.ax [(I6 0),(I6 1)] 0 2 1),bF]
def aiq:AV:=(.tuple [(.agg [(I6 3),(.ax [(.str [69]),(I6 2),(.ax [(.ax [(I6 1),(I6 2)] 0 2 1)] 0 1 1)] 0 1 3)]),(I6 0)])
theorem aaw:cq TP F3 D0 200 18 aip Heap.empty (cR false 20 aiq)=true:=by kernel_rfl
end
end Go.AM