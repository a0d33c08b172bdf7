/- Parts of the proof. Conditions: none. -/
import Derived.Test.YtfdanacohcffmaaGreatKp19
import Derived.Test.YtfdanacohcffmaaGreatKp25
set_option linter.unusedSimpArgs false
set_option linter.unusedVariables false
set_option maxHeartbeats 2000000
namespace Go.AM
open List Nat Bool Option
open Go Go.Proofs
noncomputable section
variable {K:Out->Heap->Bool} {rs qs:List aI} {n i j sz b P S v B M SB A:Nat} {h:Heap} {r:aI} {jx:cc->Nat} {lv:fJ.Lv} {vs t:List Int} {s:DB×Bool} {α:Type} {rules:Sl aI} {x:Sl (cc×Int)} {nm:cc} {D D0:DB} {p:Nat->Bool} {g:FuncId} {ps:List Nat} {e0:Env} {ks:List cc} {a:AV} {m:gq}
theorem fV.trans{A B C:DB}(h1:fV A B)(h2:fV B C):fV A C:=fun nm=>(h1 nm).trans (h2 nm)
def fW(lv:fJ.Lv)(rs:List aI)(l:Nat):List aI:=rs.filter fun r=>decide (lv r.name=l)
inductive K4 (n:Nat) (rs:List aI) (lv:fJ.Lv) (D0:DB):Nat->DB->Prop
 |zero:K4 n rs lv D0 0 D0
 |succ (l:Nat) (D D':DB):K4 n rs lv D0 l D->Reach n (fW lv rs l) D D'->pY n (fW lv rs l) (D',false)=(D',false)->K4 n rs lv D0 (l+1) D'
theorem CT{l:Nat}(hr:rs[i]?=some r):fW lv (rs.take (i+1)) l=fW lv (rs.take i) l++if lv r.name=l then [r] else []:=by
 unfold fW;rw [take_add_one,hr,toList_some,filter_append];by_cases h:lv r.name=l<;>simp [h]
theorem ad9(p:CS):eN [I6 0,.str [],.ai,.ai,I6 0,.ai,.ai,.ai] [(0,8)] [.agg (yT p)]=some (yT p):=by
 obtain ⟨i,r,hd,cs,ls⟩:=p;obtain ⟨nm,xs,ys⟩:=r;cases hd<;>cases cs<;>cases ls<;>cases xs<;>cases ys<;>rfl
structure Xu (S n:Nat) (D0:DB) (rs:List aI) (ng:FuncId) (na nb:List AV):Prop where
 n1:1<=n
 sK:n<=64
 k8:∀ r ∈ rs,r.k8
 Kc:∀ r ∈ rs,(varsOf r).length<=12
 rows:∀ nm p,D0 nm=some p->p.1≠S
 ask:∀ r ∈ rs,∀ D,fV D D0->CQ n D r
 head:∀ r ∈ rs,n ^ r.args.l.length<=4096/\r.args.l.length<=12/\∃ q,D0 r.name=some q/\q.2.length=n ^ r.args.l.length
 note:∀ (i:Int) (r:aI) (k:Int) (hd:Sl Int) (cs:Sl (Sl Int)) (ls:Sl Int) (y:AV) (h:Heap) (K:Out->Heap->Bool),(∀ h',aV h h'->K (.ret (.tuple [])) h'=true)->Sem TP ng (na++([.agg (bZ i r k (dH hd) (kM cs) (dH ls)),y]++nb)) h K
 Xv:rs.length<=60
theorem O5{hs:List cc}{ng:FuncId}{na nb:List AV}(o:Xu S n D0 rules.l ng na nb){l:Nat}{K:AX->St->Bool}
  (hP:h.get P=sC [gm rules,.map A,.map M]) (YH:P<h.next) (hl:iu hs h M ks lv) (hMn:M<h.next) (hin:∀ r ∈ rules.l,r.name ∈ hs)
  (q0:e0 0 = .ptr P 0) (q1:e0 1 = .ptr S 0) (q2:e0 2 = .func ng na nb) (q9:e0 9=I6 (l:Int)) (q10:e0 10 = .ai) (q33:e0 33=gm rules) (q34:e0 34=I6 (rules.l.length:Int)) (q35:e0 35=I6 0) {T:AV} (q26:e0 26=T) (q27:e0 27=I6 (l:Int))
  (done:∀ (e:Env) h' a ps,aV h h'->Own yT 8 h.next h' a ps->(∀ p ∈ ps,p.ok)->ps.map (·.r)=fW lv rules.l l->e 0 = .ptr P 0->e 1 = .ptr S 0->e 2 = .func ng na nb->e 10=a->e 26=T->e 27=I6 (l:Int)->F.aX.xj K (.exit 4) (sM e 62 h')=true) :
  bJ (EV F.aX.L2) (sM e0 62 h) (F.aX.xj K)=true:=by
 have hbig:rules.l.length<=cw:=by have:=o.Xv;unfold cw;omega
 refine aB 0 rules.l.length (zero_le _) (fun i e h'=>∃ a ps,aV h h'/\Own yT 8 h.next h' a ps/\(∀ p ∈ ps,p.ok)/\ps.map (·.r)=fW lv (rules.l.take i) l/\e 0 = .ptr P 0/\e 1 = .ptr S 0/\e 2 = .func ng na nb/\e 9=I6 (l:Int)/\e 10=a/\e 33=gm rules/\e 34=I6 (rules.l.length:Int)/\e 35=I6 (i:Int)/\e 26=T/\e 27=I6 (l:Int))
  ⟨.ai,[],aV.refl _,.nil,fun p hp=>(by cases hp),rfl,q0,q1,q2,q9,q10,q33,q34,q35,q26,q27⟩ ?_ ?_
 ·rintro i e h' _ hi ⟨a,ps,hx,oa,mP,uN,e0,e1,e2,e9,iJ,e33,e34,e35,A4,BX⟩ K' hn gl hr hp;obtain ⟨r,hv⟩:=dM hi;have kW:=ij hv;obtain ⟨H,BB,g1,go,gn⟩:=cA (h:=h') (zs:=[.str [],.ai,.ai]) (cs:=bY r) (n:=3) rfl rfl (kr r);have xH:aV h H:=hx.trans ⟨by omega,fun b hb=>go b (by omega)⟩;have pP:H.get P=sC [gm rules,.map A,.map M]:=by rw [xH.get P YH];exact hP
  have pl:iu hs H M ks lv:=hl.gG (xH.get M hMn);have jL:=CT (lv:=lv) (l:=l) hv;rw [F.aX.lD];simp only [e0,e9,iJ,e33,e34,e35,aO,aU hi,aQ rules hi,dB fo hv,BB];simp only [aO,cM,aj pP,aj g1,bY,pl.acy,if_pos (hin r kW),cy];by_cases UY:lv r.name=l
  ·rw [if_pos UY] at jL;simp only [fh (by omega:(lv r.name:Int)=(l:Int)),aL,aO,si];refine af (cS (o.k8 r kW) fun hd cs ls h1 h2 h3=>?_);have pE:=ad9 ⟨(i:Int),r,hd,cs,ls⟩;have oH:=oa.ext (h':=H) ⟨by omega,fun b hb=>go b (by omega)⟩
   have aiP:ps.length<=60:=by
    have z1:=congrArg List.length uN;rw [length_map] at z1;have z2:(fW lv (rules.l.take i) l).length<=(rules.l.take i).length:=length_filter_le _ _;have z3:=length_take_le' i rules.l;have:=o.Xv;omega
   obtain ⟨a2,h3',p1,p2,p3,p4,p5,p6⟩:=oH.push KY KZ xH.next (bytes:=152) (by unfold cz;omega) ⟨(i:Int),r,hd,cs,ls⟩
   simp only [yT] at pE p1;simp only [aO,pE,p1,aE hi hbig];refine hn _ _ ⟨a2,_,p5 h xH (dK _),p2,fun p hp=>?_,by rw [map_append,uN,jL];rfl,e0,e1,e2,e9,rfl,e33,e34,rfl,A4,BX⟩;rcases mem_append.1 hp with hp|hp
   ·exact mP p hp
   ·rw [mem_singleton] at hp;subst hp;exact ⟨o.k8 r kW,o.Kc r kW,h1,h2,h3⟩
  ·rw [if_neg UY,append_nil] at jL;simp only [eR (by omega:¬ (lv r.name:Int)=(l:Int)),aK,aE hi hbig,dr];exact hn _ _ ⟨a,ps,xH,oa.ext ⟨by omega,fun b hb=>go b (by omega)⟩,mP,by rw [jL];exact uN,e0,e1,e2,e9,iJ,e33,e34,rfl,A4,BX⟩
 ·rintro e h' ⟨a,ps,hx,oa,mP,uN,e0,e1,e2,e9,iJ,e33,e34,e35,A4,BX⟩ K' gl;rw [F.aX.lD];simp only [e34,e35,aO,aR];rw [gl];rw [jD (dK _)] at uN;exact done _ h' a ps hx oa mP uN e0 e1 e2 iJ A4 BX
def uJ(ns:List cc)(lv:fJ.Lv):List Int:=ns.map fun s=>(lv s:Int)
theorem CU(ns:List cc)(lv:fJ.Lv):(uJ ns lv).length=ns.length:=by simp [uJ]
theorem tN{ns:List cc}{s:cc}(h:ns[i]?=some s):(uJ ns lv)[i]?=some (lv s:Int):=by
 unfold uJ;rw [getElem?_map,h];rfl
theorem oX{α:Type}:∀ {l:List α} {i j:Nat} {s:α},l.Nodup->l[i]?=some s->l[j]?=some s->i=j
 |[],i,j,s,_,h,_=>by simp at h
 |a :: l,0,0,s,_,_,_=>rfl
 |a :: l,0,j+1,s,hn,h1,h2=>by
  simp only [getElem?_cons_zero,Option.some.injEq,getElem?_cons_succ] at h1 h2;subst h1;exact absurd (ij h2) (nodup_cons.1 hn).1
 |a :: l,i+1,0,s,hn,h1,h2=>by
  simp only [getElem?_cons_zero,Option.some.injEq,getElem?_cons_succ] at h1 h2;subst h2;exact absurd (ij h1) (nodup_cons.1 hn).1
 |a :: l,i+1,j+1,s,hn,h1,h2=>by
  rw [getElem?_cons_succ] at h1 h2;rw [oX (nodup_cons.1 hn).2 h1 h2]
theorem Xw{ns:List cc}(hn:ns.Nodup){e:fJ.Edge}{a:Nat}(ha:ns[a]?=some e.h)(hlt:lv e.h<lv e.b+e.w):(uJ ns lv).set a ((lv e.b+e.w:Nat):Int)=uJ ns (fJ.jH lv e):=by
 have hal:=(lR.1 ha).1;refine ext_getElem? fun j=>?_;rw [getElem?_set];have mZ:∀ x,fJ.jH lv e x=if x=e.h then lv e.b+e.w else lv x:=fun x=>by unfold fJ.jH;rw [if_pos hlt]
 by_cases hj:a=j
 ·subst hj;rw [if_pos rfl,if_pos (by rw [CU];exact hal),tN ha,mZ,if_pos rfl]
 ·rw [if_neg hj]
  cases hs:ns[j]? with
  |none=>unfold uJ;rw [getElem?_map,getElem?_map,hs];rfl
  |some t=>
   rw [tN hs,tN hs,mZ,if_neg];intro e1;subst e1;exact hj (oX hn ha hs)
theorem O6{e:fJ.Edge}{s:cc}(h:s≠e.h):fJ.jH lv e s=lv s:=by
 unfold fJ.jH;split
 ·exact if_neg h
 ·rfl
theorem bq{rules:Sl aI}(uo:rules.l.length<=60)(xL:∀ r ∈ rules.l,r.body.l.length<=20){h:Heap}{K:Out->Heap->Bool}
  (uI:(∀ k,¬ fJ.ef (b6 rules.l) (fJ.iter (b6 rules.l) k))->K (.ret (.tuple [.ai,bF])) h=true)
  (DY:∀ (y:Sl Int) k,fJ.ef (b6 rules.l) (fJ.iter (b6 rules.l) k)->y.l=uJ (cZ rules.l) (fJ.iter (b6 rules.l) k)->K (.ret (.tuple [dH y,bT])) h=true) :
  Sem TP 114 [gm rules] h K:=by
 have hbig:rules.l.length<=cw:=by unfold cw;omega
 have hN:∀ e ∈ b6 rules.l,e.b ∈ cZ rules.l/\e.h ∈ cZ rules.l:=fun e he=>by
  obtain ⟨r,hr,c,hc,_,hin,rfl⟩:=tJ he;exact ⟨(ej _).2 hin,(ej _).2 (List.mem_map_of_mem hr)⟩
 have hw:∀ e ∈ b6 rules.l,e.w<=1:=fun e he=>by
  obtain ⟨r,hr,c,hc,_,hin,rfl⟩:=tJ he;exact ML r c
 have UW:=yW (rG rules.l);have hdl:(cZ rules.l).length<=60:=by have:=pZ rules.l;omega
 have main:Sem TP 114 [gm rules] Heap.empty (fun o h'=>yes (((∀ k,¬ fJ.ef (b6 rules.l) (fJ.iter (b6 rules.l) k))/\o = .ret (.tuple [.ai,bF])) \/
   ∃ (a:AV) (y:Sl Int) (k:Nat),o = .ret (.tuple [a,bT])/\Fz true h' a (dH y)/\fJ.ef (b6 rules.l) (fJ.iter (b6 rules.l) k)/\y.l=uJ (cZ rules.l) (fJ.iter (b6 rules.l) k))):=by
  refine F.DG ?_;rw [F.FF]
  generalize hR:(fun (o:Out) (h':Heap)=>yes (((∀ k,¬ fJ.ef (b6 rules.l) (fJ.iter (b6 rules.l) k))/\o = .ret (.tuple [.ai,bF])) \/
   ∃ (a:AV) (y:Sl Int) (k:Nat),o = .ret (.tuple [a,bT])/\Fz true h' a (dH y)/\fJ.ef (b6 rules.l) (fJ.iter (b6 rules.l) k)/\y.l=uJ (cZ rules.l) (fJ.iter (b6 rules.l) k)))=R
  have amx:(∀ k,¬ fJ.ef (b6 rules.l) (fJ.iter (b6 rules.l) k))->∀ h',R (.ret (.tuple [.ai,bF])) h'=true:=fun hk h'=>by
   subst hR;exact bO.2 (.inl ⟨hk,rfl⟩)
  have aiQ:∀ h' a (y:Sl Int) k,Fz true h' a (dH y)->fJ.ef (b6 rules.l) (fJ.iter (b6 rules.l) k)->y.l=uJ (cZ rules.l) (fJ.iter (b6 rules.l) k)->R (.ret (.tuple [a,bT])) h'=true:=fun h' a y k q1 q2 q3=>by
   subst hR;exact bO.2 (.inr ⟨a,y,k,rfl,q1,q2,q3⟩)
  clear hR;refine af (dS uo fun x jM=>?_);have BV:x.l.length<=60:=by rw [jM];exact hdl
  have Qp:x.l.length<=cw:=by unfold cw;omega
  simp only [aO,zO (show x.l.length<=1000000 by omega)]
  have gU:(Heap.alloc Heap.empty (.cells ((replicate x.l.length (0:Int)).map iv))).get 0=sC ((uJ x.l (fJ.iter (b6 rules.l) 0)).map iv):=by
   have:uJ x.l (fJ.iter (b6 rules.l) 0)=replicate x.l.length (0:Int):=by
    show x.l.map (fun _=>(0:Int))=_;exact map_const'
   rw [this];exact ak _ _
  have gn:(Heap.alloc Heap.empty (.cells ((replicate x.l.length (0:Int)).map iv))).next=1:=rfl
  simp only [aZ];generalize (Heap.alloc Heap.empty (.cells ((replicate x.l.length (0:Int)).map iv)))=H0 at gU gn ⊢;rw [<- jM] at hN UW aiQ
  refine E6 (fun m e h'=>∃ k,h'.get 0=sC ((uJ x.l (fJ.iter (b6 rules.l) k)).map iv)/\0<h'.next/\(∀ s,fJ.iter (b6 rules.l) k s<=x.l.length)/\e 0=gm rules/\e 4=iz x/\e 5 = .slice 0 0 x.l.length 1 /\
   ((e 6=bT/\m=x.l.length*x.l.length+2-(x.l.map (fJ.iter (b6 rules.l) k)).sum)\/(e 6=bF/\m=0/\fJ.ef (b6 rules.l) (fJ.iter (b6 rules.l) k)))) _
   ⟨0,gU,by omega,fun s=>zero_le _,rfl,rfl,rfl,.inl ⟨rfl,rfl⟩⟩ ?_
  rintro m e h' ⟨k,qU,qn,bd,e0,e4,e5,Wq⟩ K0 hN0 hx0 hr0;rw [F.bq.aP];rcases Wq with ⟨e6,hm⟩|⟨e6,hm,jL⟩
  ·have ase:(x.l.map (fJ.iter (b6 rules.l) k)).sum<=x.l.length*x.l.length:=fJ.Dc x.l fun s _=>bd s;simp only [e6,cu,aL]
   refine aB 0 rules.l.length (zero_le _) (fun i e h'=>∃ cur ch,fJ.RS (fJ.iter (b6 rules.l) k) cur (mq (bC rules.l) (rules.l.take i)) ch/\h'.get 0=sC ((uJ x.l cur).map iv)/\0<h'.next/\(∀ s,cur s<=x.l.length) /\
    e 0=gm rules/\e 4=iz x/\e 5 = .slice 0 0 x.l.length 1/\e 6 = .bool ch/\e 7=I6 (i:Int)) ⟨_,false,fJ.RS.nil _,qU,qn,bd,e0,e4,e5,rfl,rfl⟩ ?_ ?_
   ·rintro i e h' _ hi ⟨cur,ch,rs,qU,qn,bd,e0,e4,e5,e6,e7⟩ K1 Tw RK Wm YJ;obtain ⟨r,hv⟩:=dM hi;have aiw:=xL r (ij hv);have A3:r.body.l.length<=cw:=by unfold cw;omega
    have aiR:r.name ∈ x.l:=(by rw [jM];exact (ej _).2 (List.mem_map_of_mem (ij hv)));have ld:∀ j,j<3->∀ h,au none (.dL (rules.l.flatMap bY) (i*3+j)) h=(bY r)[j]?:=fun j hj h=>dU fo hv hj;have ld0:∀ h,au none (.dL (rules.l.flatMap bY) (i*3)) h=some (.str r.name):=fun h=>ld 0 (by omega) h;rw [F.bq.cU];simp only [e0,e4,e7,aO,aU hi,aQ rules hi,ld0];refine af (eT Qp (fun a ha=>?_) (fun MO=>absurd aiR MO));have hal:=(lR.1 ha).1;simp only [aO]
    refine aB 0 r.body.l.length (zero_le _) (fun j e h2=>∃ cur ch,fJ.RS (fJ.iter (b6 rules.l) k) cur (mq (bC rules.l) (rules.l.take i)++rT (bC rules.l) r (r.body.l.take j)) ch/\h2.get 0=sC ((uJ x.l cur).map iv)/\0<h2.next/\(∀ s,s≠r.name->cur s<=x.l.length)/\(∀ s,cur s<=x.l.length+j) /\
     e 0=gm rules/\e 4=iz x/\e 5 = .slice 0 0 x.l.length 1/\e 6 = .bool ch/\e 7=I6 (i:Int)/\e 8=I6 (a:Int)/\e 9=I6 (j:Int))
     ⟨cur,ch,by simpa [rT] using rs,qU,qn,fun s _=>bd s,by simpa using bd,e0,e4,e5,e6,e7,rfl,rfl⟩ ?_ ?_
    ·rintro j e h2 _ hj ⟨cur,ch,rs,qU,qn,bd1,bd2,e0,e4,e5,e6,e7,e8,e9⟩ K2 qj fK r7 Ay;obtain ⟨c,hc⟩:=dM hj;obtain ⟨H2,se,k1,ko,kn⟩:=cA (h:=h2) (zs:=[I6 0,bF,.str [],.ai]) (cs:=dZ c) (n:=4) rfl rfl (jP c);have kU:H2.get 0=sC ((uJ x.l cur).map iv):=by rw [ko 0 (by omega)];exact qU
     have jL:=E3 (hs:=bC rules.l) (r:=r) hc
     have skip:pU (bC rules.l) r c = []->∀ e':Env,e' 0=gm rules->e' 4=iz x->e' 5 = .slice 0 0 x.l.length 1->e' 6 = .bool ch->e' 7=I6 (i:Int)->e' 8=I6 (a:Int)->e' 9=I6 ((j+1:Nat):Int)->K2 .normal (sM e' 89 H2)=true:=by
      intro VU e' e0 e4 e5 e6 e7 e8 e9;rw [VU,append_nil] at jL;exact qj _ _ ⟨cur,ch,by rw [jL];exact rs,kU,by omega,bd1,fun s=>by have:=bd2 s;omega,e0,e4,e5,e6,e7,e8,e9⟩
     rw [F.bq.lD];simp only [e0,e4,e7,e9,aO,aQ rules hi,ld 2 (by omega),bY,aU hj,aQ r.body hj,dB jO hc,se];simp only [aO,aj k1,dZ];refine af (eT Qp (fun b hb=>?_) (fun MO=>?_))
     ·have YK:=(lR.1 hb).1;have amy:c.name ∈ bC rules.l:=by rw [<- ej,<- jM];exact ij hb
      simp only [aO,aj k1,dZ,cy];by_cases k0:c.kind=0
      ·have VU:pU (bC rules.l) r c = [ic r c]:=(by unfold pU;rw [if_pos ⟨k0,amy⟩]);rw [VU] at jL;simp only [fh k0,aL,fh (show (0:Int)<=(b:Int) by omega),e5,nh YK,pR kU (tN hb),aO]
       have J:∀ e':Env,e' 0=gm rules->e' 4=iz x->e' 5 = .slice 0 0 x.l.length 1->e' 6 = .bool ch->e' 7=I6 (i:Int)->e' 8=I6 (a:Int)->e' 9=I6 (j:Int)->e' 12=I6 ((cur c.name+(ic r c).w:Nat):Int) ->
         F.bq.J0 K2 (sM e' 89 H2)=true:=by
        intro e' e0 e4 e5 e6 e7 e8 e9 uq;rw [F.bq.Cx];simp only [e5,e8,uq,nh hal,pR kU (tN ha),aO];by_cases hlt:cur r.name<cur c.name+(ic r c).w
        ·have mu:=Xw UW (e:=ic r c) ha hlt;have Xx:=tE (v:=((cur c.name+(ic r c).w:Nat):Int)) kU (i:=a) (by rw [CU];exact hal);have aiU:(uJ x.l cur).set a ((cur c.name+(ic r c).w:Nat):Int)=uJ x.l (fJ.jH cur (ic r c)):=mu;rw [aiU] at Xx;simp only [aU hlt,aL,e9,Xx,aO,aE hj A3];refine qj _ _ ⟨_,true,?_,by rw [Heap.aG,if_pos rfl],by rw [Heap.aT];omega,fun s hs=>?_,fun s=>?_,e0,e4,e5,rfl,e7,e8,rfl⟩
         ·rw [jL,<- append_assoc];exact rs.up hlt
         ·rw [O6 (e:=ic r c) hs];exact bd1 s hs
         ·have:=fJ.xQ (e:=ic r c) bd2 (ML r c) s;omega
        ·simp only [eR (by omega:¬ ((cur r.name:Int)<((cur c.name+(ic r c).w:Nat):Int))),aK,e9,aE hj A3,dr];exact qj _ _ ⟨cur,ch,by rw [jL,<- append_assoc];exact rs.same hlt,kU,by omega,bd1,fun s=>by have:=bd2 s;omega,e0,e4,e5,e6,e7,e8,rfl⟩
       cases hng:c.neg with
       |true=>
        have hw1:(ic r c).w=1:=(by unfold ic;simp [hng]);have yP:=aE (i:=cur c.name) (n:=2000000) (by have:=bd2 c.name;omega) (by unfold cw;omega);simp only [aL,yP,dr];exact J _ e0 e4 e5 e6 e7 e8 e9 (by rw [hw1];rfl)
       |false=>
        have hw1:(ic r c).w=0:=(by unfold ic;simp [hng]);simp only [aK];exact J _ e0 e4 e5 e6 e7 e8 e9 (by rw [hw1];rfl)
      ·simp only [eR k0,aK,aE hj A3,dr];exact skip (by unfold pU;rw [if_neg (fun h=>k0 h.1)]) _ e0 e4 e5 e6 e7 e8 rfl
     ·have aiV:c.name ∉ bC rules.l:=fun h=>MO (by rw [jM];exact (ej _).2 h);have VU:pU (bC rules.l) r c = []:=by unfold pU;rw [if_neg (fun h=>aiV h.2)]
      simp only [aO,aj k1,dZ,cy];by_cases k0:c.kind=0
      ·simp only [fh k0,aL,show decide ((0:Int)<=-1)=false from rfl,aK,aE hj A3,dr];exact skip VU _ e0 e4 e5 e6 e7 e8 rfl
      ·simp only [eR k0,aK,aE hj A3,dr];exact skip VU _ e0 e4 e5 e6 e7 e8 rfl
    ·rintro e h2 ⟨cur,ch,rs,qU,qn,bd1,bd2,e0,e4,e5,e6,e7,e8,e9⟩ K2 fK;rw [jD (dK _),<- Ir hv] at rs;rw [F.bq.lD];simp only [e0,e7,e9,aO,aQ rules hi,ld 2 (by omega),bY,aR];rw [fK,F.bq.jo];simp only [e4,e5,e7,e8,nh hal,pR qU (tN ha),aO,reduceEqDiff,reduceIte];by_cases Wl:x.l.length<cur r.name
     ·simp only [aU Wl,aL];rw [Wm,F.bq.k7,hr0,F.bq.bg];refine amx (fJ.high (N:=x.l) hN hw (k:=k) (E1:=mq (bC rules.l) (rules.l.take (i+1))) (E2:=mq (bC rules.l) (rules.l.drop (i+1))) ?_ aiR (by rw [<- rs.eq];exact Wl)) _;unfold b6 mq;rw [<- flatMap_append,take_append_drop]
     ·simp only [eR (by omega:¬ ((x.l.length:Int)<(cur r.name:Int))),aK,aE hi hbig,dr];refine Tw _ _ ⟨cur,ch,rs,qU,qn,fun s=>?_,e0,e4,e5,e6,rfl⟩;by_cases hs:s=r.name
      ·subst hs;omega
      ·exact bd1 s hs
   ·rintro e h' ⟨cur,ch,rs,qU,qn,bd',e0,e4,e5,e6,e7⟩ K1 RK;rw [jD (dK _)] at rs;obtain ⟨d1,d2⟩:=rs.done;have d1':cur=fJ.iter (b6 rules.l) (k+1):=d1;rw [F.bq.cU];simp only [e0,e7,aO,aR];rw [RK,F.bq.cm];by_cases jL:fJ.ef (b6 rules.l) (fJ.iter (b6 rules.l) k)
    ·have O7:fJ.ef (mq (bC rules.l) rules.l) (fJ.iter (b6 rules.l) k):=jL;rw [fh O7] at d2;have d3:cur=fJ.iter (b6 rules.l) k:=by rw [d1];exact fJ.A9 jL
     rw [d3] at qU;exact hN0 0 _ _ (by omega) ⟨k,qU,qn,bd,e0,e4,e5,.inr ⟨by simp only [kC,reduceEqDiff,reduceIte,e6,d2];rfl,rfl,jL⟩⟩
    ·have O7:¬ fJ.ef (mq (bC rules.l) rules.l) (fJ.iter (b6 rules.l) k):=jL;rw [eR O7] at d2;rw [d1'] at qU bd';have h1:=fJ.T8 hN jL;have h2:(x.l.map (fJ.iter (b6 rules.l) (k+1))).sum<=x.l.length*x.l.length:=fJ.Dc x.l fun s _=>bd' s;have h3:(x.l.map (fJ.iter (b6 rules.l) k)).sum<(x.l.map (fJ.iter (b6 rules.l) (k+1))).sum:=h1;exact hN0 _ _ _ (by rw [hm];omega) ⟨k+1,qU,qn,bd',e0,e4,e5,.inl ⟨by simp only [kC,reduceEqDiff,reduceIte,e6,d2];rfl,rfl⟩⟩
  ·simp only [e6,cu,aK];rw [hx0,F.bq.aC];simp only [kC,reduceEqDiff,reduceIte,e5];have hf:=OF qU;rw [CU] at hf;exact aiQ _ _ (some (uJ x.l (fJ.iter (b6 rules.l) k))) k hf jL rfl
 refine main.frozen (by simp [AV.cP,br fN]) fun o h' ho=>?_;rcases bO.1 ho with ⟨hb,rfl⟩|⟨a,y,k,rfl,f1,jL,s3⟩
 ·exact ⟨_,_,rfl,.de rfl,uI hb⟩
 ·have fl:=j8.cons f1 (j8.cons (Fz.scalar bT rfl) j8.nil);exact ⟨_,_,rfl,.tuple _ _ fl.len fl.rel,DY y k jL s3⟩
theorem UZ{lo:Nat}{hs:List cc}{ng:FuncId}{na nb:List AV}(o:Xu S n D0 rules.l ng na nb)
  (hP:h.get P=sC [gm rules,.map A,.map M]) (YH:P<h.next) (hl:iu hs h M ks lv) (Gy:ks.Nodup) (hMn:M<h.next) (hin:∀ r ∈ rules.l,r.name ∈ hs) (UY:∀ x,lv x<=1000000)
  (hS:h.get S=sC [I6 (n:Int),.map B]) (Xe:S<h.next) (hD:ei D0 h B lo) (hPM:∀ nm p,D0 nm=some p->p.1≠P/\p.1≠M)
  (hK:∀ h' D' T,(∀ x ∈ hs,lv x<=T)->K4 n rules.l lv D0 (T+1) D'->fV D' D0->ei D' h' B lo->(∀ b,b<h.next->(∀ nm p,D0 nm=some p->b≠p.1)->h'.get b=h.get b)->h.next<=h'.next->K (.ret (.tuple [])) h'=true) :
  Sem TP 59 [.ptr P 0,.ptr S 0,.func ng na nb] h K:=by
 obtain ⟨es,ck,m,z1,z2,z3,z4,z5⟩:=hl.ex;have amA:(m.map (·.1)).Nodup:=by rw [z4];exact Gy
 have xd:∀ p ∈ m,p.1 ∈ hs/\p.2=(lv p.1:Int):=fun p hp=>by
  have h1:=zQ amA hp;rw [z5] at h1;by_cases hh:p.1 ∈ hs
  ·rw [if_pos hh] at h1;exact ⟨hh,(Option.some.inj h1).symm⟩
  ·rw [if_neg hh] at h1;cases h1
 refine F.xq ?_;rw [F.yu];have hrg:qF .map (.map M) h=some (.ptr h.next 0,h.alloc (.iT (some M) ck [] ck)):=by simp only [qF,z1]
 simp only [aO,cM,aj hP,hrg]
 refine DZ es (fun seen e hh=>∃ t:Nat,e 6=I6 (t:Int)/\(∀ en ∈ es,en.2.2 ∈ seen->∀ v:Nat,en.2.1=I6 (v:Int)->v<=t)/\t<=1000000/\hh.get h.next=some (.iT (some M) ck seen ck)/\(∀ b,b<h.next->hh.get b=h.get b)/\h.next<hh.next /\
  e 0 = .ptr P 0/\e 1 = .ptr S 0/\e 2 = .func ng na nb/\e 17 = .ptr h.next 0)
  ⟨0,rfl,fun en _ uO=>(by cases uO),by omega,ak _ _,fun b hb=>by rw [Heap.aN,if_neg (by omega)],by rw [Heap.aD];omega,rfl,rfl,rfl,rfl⟩ ?_
 rintro seen e hh ⟨t,e6,ht,ht6,w3,wf,wn,e0,e1,e2,AA⟩ K' Xy hex aaJ aiW;rw [F.aX.aP];simp only [AA];refine IF w3 (by rw [wf M hMn];exact z1) z3 (by omega) (fun jS=>?_) (fun en uO hns G2=>?_)
 ·simp only [Mi,sG,dr,cu,aK];rw [hex,F.aX.aC]
  have amB:∀ x ∈ hs,lv x<=t:=fun x hx=>by
   have h1:m.find x=some (lv x:Int):=by rw [z5,if_pos hx]
   obtain ⟨en,uO,h2,h3⟩:=z2.aaI _ (vk h1);exact ht en uO (jS en uO) (lv x) h3
  have yP:=aE (i:=t) (n:=1000001) (by omega) (by unfold cw;omega);simp only [aO,reduceEqDiff,reduceIte,e6,yP]
  refine aB 0 (t+1) (zero_le _) (fun l e h'=>∃ D,K4 n rules.l lv D0 l D/\fV D D0/\ei D h' B lo/\(∀ b,b<h.next->(∀ nm p,D0 nm=some p->b≠p.1)->h'.get b=h.get b)/\h.next<=h'.next/\e 0 = .ptr P 0/\e 1 = .ptr S 0/\e 2 = .func ng na nb/\e 26=I6 ((t+1:Nat):Int)/\e 27=I6 (l:Int))
   ⟨D0,.zero,fun _=>rfl,hD.ext ⟨by omega,fun b hb=>wf b hb⟩,fun b hb _=>wf b hb,by omega,e0,e1,e2,rfl,rfl⟩ ?_ ?_
  ·rintro l e h' _ hlt ⟨D,hrun,BH,oO,hfr,mS,e0,e1,e2,A4,BX⟩ K1 Tw jM Wm YJ;have amC:∀ nm p,D0 nm=some p->P≠p.1:=fun nm p hp=>Ne.symm (hPM nm p hp).1;have notM:∀ nm p,D0 nm=some p->M≠p.1:=fun nm p hp=>Ne.symm (hPM nm p hp).2;have pP:h'.get P=sC [gm rules,.map A,.map M]:=by rw [hfr P YH amC];exact hP
   have pl:iu hs h' M ks lv:=hl.gG (hfr M hMn notM);rw [F.aX.cU];simp only [e0,A4,BX,aO,aU hlt,cM,aj pP];refine O5 o (l:=l) pP (by omega) pl (by omega) hin e0 e1 e2 rfl rfl rfl rfl rfl A4 BX fun e' h3 a ps BY oa mP uN f0 f1 f2 f10 f26 f27=>?_;rw [F.aX.jo];simp only [f1,f2,f10];have hS3:h3.get S=sC [I6 (n:Int),.map B]:=by rw [BY.get S (by omega),hfr S Xe (fun nm p hp=>Ne.symm (o.rows nm p hp))];exact hS
   have BI:∀ p ∈ ps,p.r ∈ rules.l:=fun p hp=>by
    have:p.r ∈ fW lv rules.l l:=(by rw [<- uN];exact List.mem_map_of_mem hp);exact (mem_filter.1 this).1
   have aiP:ps.length<=60:=by
    have y1:=congrArg List.length uN;rw [length_map] at y1;have y2:(fW lv rules.l l).length<=rules.l.length:=length_filter_le _ _;have:=o.Xv;omega
   have po:Xs S n D ps ng na nb:=
    ⟨o.n1,o.sK,mP,fun nm p hp=>by obtain ⟨p0,y1,y2,_⟩:=BH.back hp;rw [y2];exact o.rows nm p0 y1,fun p hp D' wN=>o.ask _ (BI p hp) D' (wN.trans BH),
     fun p hp=>by
      obtain ⟨y1,y2,q,y3,y4⟩:=o.head _ (BI p hp);obtain ⟨q',y5,_,y6⟩:=BH.get y3
      exact ⟨y1,y2,q',y5,by rw [y6];exact y4⟩,o.note⟩
   have hDn:∀ nm p,D nm=some p->p.1<h'.next:=fun nm p hp=>(oO.nO nm p hp).2.1
   refine af (O3 po hS3 (by have:=BY.next;omega) (oO.ext BY) oa (fun b hb nm p hp=>by have:=oa.ge hb;have:=hDn nm p hp;omega) aiP fun h4 D4 k1 k2 k3 k4 k5 k6=>?_);simp only [aO,f27,aE hlt (show t+1<=cw by unfold cw;omega)];rw [uN] at k1 k2;refine Tw _ _ ⟨D4,.succ l D D4 hrun k1 k2,k3.trans BH,k4,fun b b1 b2=>?_,by have:=BY.next;omega,f0,f1,f2,f26,rfl⟩;rw [k5 b (by have:=BY.next;omega) (fun nm p hp=>by obtain ⟨p0,y1,y2,_⟩:=BH.back hp;rw [y2];exact b2 nm p0 y1),BY.get b (by omega),hfr b b1 b2]
  ·rintro e h' ⟨D,hrun,BH,oO,hfr,mS,e0,e1,e2,A4,BX⟩ K1 jM;rw [F.aX.cU];simp only [A4,BX,aO,aR];rw [jM,F.aX.cm];exact hK h' D t amB hrun BH oO hfr mS
 ·obtain ⟨p,Jo,Tw,qj⟩:=z2.mem en uO;obtain ⟨hph,hpv⟩:=xd p Jo;rw [hpv] at qj;have ash:=UY p.1;simp only [Mi,sG,Dv,dr,cu,aL,G2,e6,qj,OU]
  have hmx:Ts (t:Int) (lv p.1:Int)=((if lv p.1>t then lv p.1 else t:Nat):Int):=by
   unfold Ts;by_cases Wl:lv p.1>t
   ·rw [if_pos Wl,if_pos (by omega)]
   ·rw [if_neg Wl,if_neg (by omega)]
  refine Xy en uO hns _ _ ⟨if lv p.1>t then lv p.1 else t,by rw [hmx];rfl,fun en' O8 iZ v hv=>?_,by split<;>omega,by rw [Heap.aG,if_pos rfl],fun b hb=>by rw [Heap.aG,if_neg (by omega)];exact wf b hb,by rw [Heap.aT];exact wn,e0,e1,e2,AA⟩;rcases mem_append.1 iZ with iZ|iZ
  ·have:=ht en' O8 iZ v hv;split<;>omega
  ·rw [mem_singleton] at iZ
   have hee:en'=en:=by
    have hb:=z3.nodup;obtain ⟨i,hi⟩:=mem_iff_getElem?.1 uO;obtain ⟨j,hj⟩:=mem_iff_getElem?.1 O8;have Ae:(es.map (·.2.2))[i]?=some en.2.2:=by rw [getElem?_map,hi];rfl
    have Mc:(es.map (·.2.2))[j]?=some en.2.2:=by rw [getElem?_map,hj,<- iZ];rfl
    have hij:=oX hb Ae Mc;subst hij;rw [hi] at hj;exact (Option.some.inj hj).symm
   rw [hee,qj] at hv;have:v=lv p.1:=by injection hv with _ h3;omega
   rw [this];split<;>omega
theorem jq{n:Int}{x:Sl Int}(hx:x.l.length<=cw){h:Heap}{K:Out->Heap->Bool}(hK:K (.ret (.bool (jN n x.l))) h=true):Sem TP 125 [I6 n,dH x] h K:=by
 refine F.Mw ?_;rw [F.Ov];refine aB 0 x.l.length (zero_le _) (fun i e h'=>h'=h/\e 0=I6 n/\e 1=dH x/\e 5=I6 (i:Int)/\jN n (x.l.take i)=true) ⟨rfl,rfl,rfl,rfl,rfl⟩ ?_ ?_
 ·rintro i e h' _ hi ⟨rfl,e0,e1,e5,ht⟩ K' hn gl hr hp;have hv:x.l[i]?=some x.l[i]:=jQ hi;rw [F.jq.aP];simp only [e0,e1,e5,aO,aU hi,aQ x hi,gh hv];by_cases h1:x.l[i]<0
  ·simp only [fh h1,aL];rw [hr,F.jq.bg];have:jN n x.l=false:=all_false hv (by simp [h1]);rw [this] at hK;exact hK
  ·simp only [eR h1,aK];by_cases h2:n<=x.l[i]
   ·simp only [fh h2,aL];rw [hr,F.jq.bg];have:jN n x.l=false:=all_false hv (by simp [h2]);rw [this] at hK;exact hK
   ·simp only [eR h2,aK,aE hi hx,dr];exact hn _ _ ⟨rfl,e0,e1,rfl,lE hv ht (by simp [h1,h2])⟩
 ·rintro e h' ⟨rfl,e0,e1,e5,ht⟩ K' gl;rw [F.jq.aP];simp only [e0,e1,e5,aO,aR];rw [gl,F.jq.aC];rw [jD (dK _)] at ht;rw [ht] at hK;exact hK
theorem Ke{x:Sl Int}(hx:x.l.length<=cw){a b:List AV}{p:Int->Bool}(hp:∀ (v:Int) (K:Out->Heap->Bool),K (.ret (.bool (p v))) h=true->Sem TP g (a++([I6 v]++b)) h K)
  (hK:∀ n:Int,decide (0<=n)=x.l.any p->K (.ret (I6 n)) h=true):Sem TP 91 [dH x,.func g a b] h K:=by
 refine F.qM ?_;rw [F.rC];simp only [aO];refine aB 0 x.l.length (zero_le _) (fun i e h'=>h'=h/\e 0=dH x/\e 1 = .func g a b/\e 7=I6 (x.l.length:Int)/\e 8=I6 (i:Int)/\(x.l.take i).any p=false) ⟨rfl,rfl,rfl,rfl,rfl,rfl⟩ ?_ ?_
 ·rintro i e h' _ hi ⟨rfl,e0,e1,e7,e8,ht⟩ K' hn gl hr xb;have hv:x.l[i]?=some x.l[i]:=jQ hi;rw [F.cr.aP];simp only [e0,e1,e7,e8,aO,aU hi,aQ x hi,gh hv,iy];refine af (hp _ _ ?_);simp only [aO]
  cases hq:p x.l[i] with
  |true=>
   simp only [aL];rw [hr,F.cr.bg];refine hK (i:Int) ?_;rw [fh (by omega:(0:Int)<=(i:Int))];exact (List.any_eq_true.2 ⟨_,ij hv,hq⟩).symm
  |false=>
   simp only [aK,aE hi hx,dr];exact hn _ _ ⟨rfl,e0,e1,e7,rfl,by rw [take_add_one,hv,any_append,ht];simp [hq]⟩
 ·rintro e h' ⟨rfl,e0,e1,e7,e8,ht⟩ K' gl;rw [F.cr.aP];simp only [e0,e1,e7,e8,aO,aR];rw [gl,F.cr.aC];rw [jD (dK _)] at ht;exact hK (-1) (by rw [ht];rfl)
theorem vq{x:Sl Int}(hx:x.l.length<=cw){a b:List AV}{p:Int->Bool}(hp:∀ (v:Int) (K:Out->Heap->Bool),K (.ret (.bool (p v))) h=true->Sem TP g (a++([I6 v]++b)) h K)
  (hK:K (.ret (.bool (x.l.any p))) h=true):Sem TP 47 [dH x,.func g a b] h K:=by
 refine F.pF ?_;rw [F.pO];refine af (Ke hx hp fun n hn=>?_);simp only [aO];rw [hn];exact hK
def II(n:Int)(x:Int):Bool:=decide (x<0)||decide (n<=x)
theorem Xz(n:Int)(l:List Int):jN n l = !(l.any (II n)):=by
 unfold jN II
 induction l with
 |nil=>rfl
 |cons a l ih=>simp only [all_cons,any_cons,ih];cases decide (a<0)<;>cases decide (n<=a)<;>rfl
theorem jZ{cs:List AV}(h:cs.length=n):kQ (some n) cs 0=some (.agg cs):=by
 simp [kQ,h,jD]
theorem je{n k:Nat}(h1:1<=n)(h2:n<=64)(hk:k<=cw){h:Heap}{K:Out->Heap->Bool}(hK:∀ v:Nat,(n ^ k<=4096->v=n ^ k)->(4096<n ^ k->4096<v)->K (.ret (I6 (v:Int))) h=true) :
  Sem TP 155 [I6 (n:Int),I6 (k:Int)] h K:=by
 refine F.JR ?_;rw [F.Mt];refine aB 0 k (zero_le _) (fun i e h'=>h'=h/\e 0=I6 (n:Int)/\e 1=I6 (k:Int)/\e 6=I6 (i:Int)/\e 5=I6 ((n ^ i:Nat):Int)/\n ^ i<=262144) ⟨rfl,rfl,rfl,rfl,rfl,by simp⟩ ?_ ?_
 ·rintro i e h' _ hi ⟨rfl,e0,e1,e6,e5,hb⟩ K' hn hx hr hp;rw [F.je.aP];simp only [e0,e1,e5,e6,aO,aU hi];by_cases hc:n ^ i<=4096
  ·have hm:n ^ i*n<=4096*64:=Nat.mul_le_mul hc h2;have zI:((n ^ i:Nat):Int)*(n:Int)=((n ^ (i+1):Nat):Int):=by rw [Nat.pow_succ,Int.natCast_mul]
   have hs:n ^ (i+1)<=262144:=by rw [Nat.pow_succ];omega
   have hmul:aF .mul (I6 ((n ^ i:Nat):Int)) (I6 (n:Int))=some (I6 ((n ^ (i+1):Nat):Int)):=by
    rw [zG (by rw [zI];omega) (by rw [zI];omega),zI]
   simp only [fh (by omega:((n ^ i:Nat):Int)<=4096),aL,hmul,aE hi hk,dr];exact hn _ _ ⟨rfl,e0,e1,rfl,rfl,hs⟩
  ·simp only [eR (by omega:¬ ((n ^ i:Nat):Int)<=4096),aK];rw [hx,F.je.aC];simp only [e5,kC,reduceEqDiff,reduceIte];have:=MM h1 (Nat.le_of_lt hi);exact hK _ (fun h=>by omega) (fun _=>by omega)
 ·rintro e h' ⟨rfl,e0,e1,e6,e5,hb⟩ K' hx;rw [F.je.aP];simp only [e0,e1,e5,e6,aO,aR];rw [hx,F.je.aC];simp only [e5,kC,reduceEqDiff,reduceIte];exact hK _ (fun _=>rfl) (fun h=>h)
def RM(n k:Nat):Int:=if n ^ k<=4096 then ((n ^ k:Nat):Int) else -1
theorem fB{n k:Nat}(h1:1<=n)(h2:n<=64)(hk:k<=cw){h:Heap}{K:Out->Heap->Bool}(hK:K (.ret (I6 (RM n k))) h=true) :
  Sem TP 108 [I6 (n:Int),I6 (k:Int),I6 4096] h K:=by
 refine F.FL ?_;rw [F.HW];refine aB 0 k (zero_le _) (fun i e h'=>h'=h/\e 0=I6 (n:Int)/\e 2=I6 4096/\e 8=I6 (k:Int)/\e 9=I6 (i:Int)/\e 7=I6 ((n ^ i:Nat):Int)/\n ^ i<=4096) ⟨rfl,rfl,rfl,rfl,rfl,rfl,by simp⟩ ?_ ?_
 ·rintro i e h' _ hi ⟨rfl,e0,e2,e8,e9,e7,hb⟩ K' hn hx hr hp;rw [F.fB.aP];have hm:n ^ i*n<=4096*64:=Nat.mul_le_mul hb h2;have zI:((n ^ i:Nat):Int)*(n:Int)=((n ^ (i+1):Nat):Int):=by rw [Nat.pow_succ,Int.natCast_mul]
  have hs:n ^ (i+1)<=262144:=by rw [Nat.pow_succ];omega
  have hmul:aF .mul (I6 ((n ^ i:Nat):Int)) (I6 (n:Int))=some (I6 ((n ^ (i+1):Nat):Int)):=by
   rw [zG (by rw [zI];omega) (by rw [zI];omega),zI]
  simp only [e0,e2,e7,e8,e9,aO,aU hi,hmul];by_cases hc:n ^ (i+1)<=4096
  ·simp only [eR (by omega:¬ (4096:Int)<((n ^ (i+1):Nat):Int)),aK,aE hi hk,dr];exact hn _ _ ⟨rfl,e0,e2,e8,rfl,rfl,hc⟩
  ·simp only [fh (by omega:(4096:Int)<((n ^ (i+1):Nat):Int)),aL];rw [hr,F.fB.bg];simp only [kC,reduceEqDiff,reduceIte];have:=MM h1 (show i+1<=k from hi);rw [RM,if_neg (by omega)] at hK;exact hK
 ·rintro e h' ⟨rfl,e0,e2,e8,e9,e7,hb⟩ K' hx;rw [F.fB.aP];simp only [e8,e9,aO,aR];rw [hx,F.fB.aC];simp only [e7,kC,reduceEqDiff,reduceIte];rw [RM,if_pos hb] at hK;exact hK
def U0(n k:Nat):AV:=if 12<k then .tuple [I6 0,I6 2] else if 4096<n ^ k then .tuple [I6 0,I6 5] else .tuple [I6 ((n ^ k:Nat):Int),I6 0]
theorem uu{k:Nat}(h1:1<=n)(h2:n<=64)(hk:k<=cw)(hK:K (.ret (U0 n k)) h=true):Sem TP 99 [I6 (n:Int),I6 (k:Int)] h K:=by
 refine F.FK ?_;rw [F.HU];simp only [aO,eR (by omega:¬ (n:Int)<1),eR (by omega:¬ (64:Int)<(n:Int)),eR (by omega:¬ (k:Int)<0)];unfold U0 at hK;by_cases J9:12<k
 ·rw [if_pos J9] at hK;simp only [fh (by omega:(12:Int)<(k:Int)),aL];exact hK
 ·rw [if_neg J9] at hK;simp only [eR (by omega:¬ (12:Int)<(k:Int)),aK];refine af (fB h1 h2 hk ?_);simp only [aO];by_cases hc:n ^ k<=4096
  ·rw [if_neg (by omega)] at hK;simp only [RM,if_pos hc,eR (by omega:¬ ((n ^ k:Nat):Int)<0),aK];exact hK
  ·rw [if_pos (by omega)] at hK;simp only [RM,if_neg hc,fh (by omega:(-1:Int)<0),aL];exact hK
theorem RN{n:Int}(hb:h.get b=sC [I6 n])(v:Int)(K:Out->Heap->Bool)(hK:K (.ret (.bool (II n v))) h=true):Sem TP 93 ([]++([I6 v]++[.ptr b 0])) h K:=by
 refine F.yw ?_;rw [F.Ao];simp only [aj hb,aO];unfold II at hK;by_cases h1:v<0<;>by_cases h2:n<=v<;>simpa [h1,h2] using hK
theorem yX{n:Int}{x:Sl Int}(hx:x.l.length<=cw)(hK:K (.ret (.bool (jN n x.l))) h=true):Sem TP 52 [I6 n,dH x] h K:=by
 refine Sem.data (r:=.bool (jN n x.l)) ?_ (by simp [AV.cP,AV.pure,br iE]) hK;refine F.Bt ?_;rw [F.CD];simp only [pM (x:=I6 _) rfl,dr,aZ];have g0:(Heap.alloc Heap.empty (.cells [I6 n])).get 0=sC [I6 n]:=ak _ _;refine af (vq hx (RN g0) ?_);simp only [aO];rw [Xz];exact eB rfl
theorem BJ{l m:List Int}{a b:Int}(ha:l[i]?=some a)(hb:m[i]?=some b):dA (l.drop i) (m.drop i)=if a=b then dA (l.drop (i+1)) (m.drop (i+1)) else decide (a<b):=by
 have h1:=(lR.1 ha).1;have h2:=(lR.1 hb).1;rw [drop_eq_getElem_cons h1,drop_eq_getElem_cons h2];rw [jQ h1] at ha;rw [jQ h2] at hb;cases ha;cases hb;rfl
theorem gI{x y:Sl Int}(hx:x.l.length<=cw)(Tn:x.l.length=y.l.length){h:Heap}{K:Out->Heap->Bool}(hK:K (.ret (.bool (dA x.l y.l))) h=true):Sem TP 156 [dH x,dH y] h K:=by
 refine F.HV ?_;rw [F.JU];refine aB 0 x.l.length (zero_le _) (fun i e h'=>h'=h/\e 0=dH x/\e 1=dH y/\e 5=I6 (i:Int)/\dA x.l y.l=dA (x.l.drop i) (y.l.drop i)) ⟨rfl,rfl,rfl,rfl,rfl⟩ ?_ ?_
 ·rintro i e h' _ hi ⟨rfl,e0,e1,e5,hl⟩ K' hn gl hr hp;have wO:i<y.l.length:=by omega
  have hv:x.l[i]?=some x.l[i]:=jQ hi;have hw:y.l[i]?=some y.l[i]:=jQ wO;rw [BJ hv hw] at hl;generalize x.l[i]=a at hv hl;generalize y.l[i]=b at hw hl;rw [F.gI.aP];simp only [e0,e1,e5,aO,aU hi,aQ x hi,aQ y wO,gh hv,gh hw,cy];by_cases rO:a=b
  ·rw [if_pos rO] at hl;simp only [fh rO,Bool.not_true,aK,aE hi hx,dr];exact hn _ _ ⟨rfl,e0,e1,rfl,hl⟩
  ·rw [if_neg rO] at hl;simp only [eR rO,Bool.not_false,aL];rw [hr,F.gI.bg];simp only [kC,reduceEqDiff,reduceIte];rw [hl] at hK;exact hK
 ·rintro e h' ⟨rfl,e0,e1,e5,hl⟩ K' gl;rw [F.gI.aP];simp only [e0,e5,aO,aR];rw [gl,F.gI.aC];rw [drop_of_length_le (dK _)] at hl;rw [hl] at hK;exact hK
theorem K5{a:Int}(hK:K (.ret bF) h=true):Sem TP 136 [I6 a] h K:=by
 refine F.CF ?_;rw [F.DN];simp only [aO,beq_self_eq_true,Bool.not_true];exact hK
theorem Fa{a b:Int}(hK:∀ c:Int,(c=0↔a=b)->(c<0↔a<b)->K (.ret (I6 c)) h=true):Sem TP 95 [I6 a,I6 b] h K:=by
 refine F.An ?_;rw [F.Bu];refine af (K5 ?_);simp only [aO];refine af (K5 ?_);simp only [aO];by_cases h1:a<b
 ·simp only [fh h1,aL];exact hK _ (by omega) (by omega)
 ·simp only [eR h1,aK];by_cases h2:b<a
  ·simp only [fh h2,aL];exact hK _ (by omega) (by omega)
  ·simp only [eR h2,aK];exact hK _ (by omega) (by omega)
theorem IJ{x y:Sl Int}(hx:x.l.length<=cw)(Tn:x.l.length=y.l.length)(hK:∀ c:Int,decide (0<=c) = !(dA x.l y.l)->K (.ret (I6 c)) h=true):Sem TP 55 [dH x,dH y] h K:=by
 refine F.mw ?_;rw [F.mQ];simp only [aO];refine aB 0 x.l.length (zero_le _) (fun i e h'=>h'=h/\e 0=dH x/\e 1=dH y/\e 9=dH x/\e 10=I6 (x.l.length:Int)/\e 11=I6 (i:Int)/\dA x.l y.l=dA (x.l.drop i) (y.l.drop i)) ⟨rfl,rfl,rfl,rfl,rfl,rfl,rfl⟩ ?_ ?_
 ·rintro i e h' _ hi ⟨rfl,e0,e1,e9,iJ,l9,hl⟩ K' hn gl hr hp;have wO:i<y.l.length:=by omega
  have hv:x.l[i]?=some x.l[i]:=jQ hi;have hw:y.l[i]?=some y.l[i]:=jQ wO;rw [BJ hv hw] at hl;generalize x.l[i]=a at hv hl;generalize y.l[i]=b at hw hl;rw [F.bQ.aP];simp only [e1,e9,iJ,l9,aO,aU hi,aQ x hi,aQ y wO,gh hv,gh hw,eR (by omega:¬ (y.l.length:Int)<=(i:Int))];refine af (Fa fun c c1 c2=>?_);simp only [aO,cy];by_cases rO:a=b
  ·rw [if_pos rO] at hl;simp only [fh (c1.2 rO),Bool.not_true,aK,aE hi hx,dr];exact hn _ _ ⟨rfl,e0,e1,e9,iJ,rfl,hl⟩
  ·rw [if_neg rO] at hl;simp only [eR (fun h=>rO (c1.1 h)),Bool.not_false,aL];rw [hr,F.bQ.bg];simp only [kC,reduceEqDiff,reduceIte];refine hK c ?_;rw [hl];by_cases hlt:a<b
   ·rw [fh hlt,eR (by have:=c2.2 hlt;omega)];rfl
   ·rw [eR hlt,fh (by have:=mt c2.1 hlt;omega)];rfl
 ·rintro e h' ⟨rfl,e0,e1,e9,iJ,l9,hl⟩ K' gl;rw [F.bQ.aP];simp only [iJ,l9,aO,aR];rw [gl,F.bQ.aC];simp only [e0,e1,aO,reduceEqDiff,reduceIte,eR (by omega:¬ (x.l.length:Int)<(y.l.length:Int))];rw [drop_of_length_le (dK _)] at hl;exact hK 0 (by rw [hl];rfl)
structure View {α:Type} (enc:α->List AV) (sz:Nat) (a:AV) (l:List α):Prop where
 len:∀ h:Heap,bK .slice a h=some (I6 (l.length:Int))
 at_:∀ (i:Nat) (v:α),l[i]?=some v->∃ cs o,(∀ k:IntKind,jw sz a (.int k (i:Int))=some (.dL cs o))/\(∀ h:Heap,au (some sz) (.dL cs o) h=some (.agg (enc v)))/\∀ (m:Nat),m<sz->∀ h:Heap,au none (.dL cs (o+m)) h=(enc v)[m]?
theorem O9{enc:α->List AV}(he:∀ a,(enc a).length=sz)(x:Sl α):View enc sz (dR enc sz x) x.l where
 len h:=Oc x h
 at_ i v hv:=⟨x.l.flatMap enc,i*sz,fun k=>aQ x (lR.1 hv).1,fun h=>dB he hv,fun m hm h=>dU he hv hm⟩
theorem U1{enc:α->List AV}(he:∀ a,(enc a).length=sz)(x:Sl α)(hi:i<=x.l.length) :
  ∃ a,(∀ k:IntKind,fR (some sz) (dR enc sz x) none (some (.int k (i:Int)))=some a)/\View enc sz a (x.l.take i):=by
 cases x with
 |none=>
  simp only [Sl.adE,length_nil,le_zero_eq] at hi;subst hi;exact ⟨.ai,fun k=>by simp [fR,dR,lJ,pH,asNat],⟨fun h=>rfl,fun j v hv=>by simp at hv⟩⟩
 |some l=>
  simp only [Sl.Dt] at hi ⊢;refine ⟨.ax (l.flatMap enc) 0 i sz,fun k=>?_,⟨fun h=>by simp [bK,Nat.min_eq_left hi],fun j v hv=>?_⟩⟩
  ·simp [fR,dR,lJ,pH,asNat,hi]
  ·have hj:j<i:=by have:=(lR.1 hv).1;rw [length_take] at this;omega
   rw [getElem?_take_of_lt hj] at hv;exact ⟨l.flatMap enc,j*sz,fun k=>by simp [jw,asNat,hj],fun h=>dB he hv,fun m hm h=>dU he hv hm⟩
def aY(r:Rel):List AV:=[.str r.name,I6 r.arity,kM r.aM]
abbrev qm(x:Sl Rel):AV:=dR aY 3 x
theorem dY(r:Rel):(aY r).length=3:=rfl
theorem uv(r:Rel):AV.cP (aY r)=true:=by simp [aY,AV.cP,AV.pure,br mG]
theorem gJ(r:Rel):aW (aY r)=true:=by unfold aY;simp only [aW,fS,Bool.and_true];rfl
def ah(s:ct):List AV:=[I6 s.size,qm s.aA]
theorem dI(s:ct):AV.cP (ah s)=true:=by simp [ah,AV.cP,AV.pure,br uv]
theorem bU(s:ct):aW (ah s)=true:=by unfold ah;simp only [aW,fS,Bool.and_true];rfl
theorem eM{s:ct}(g:h.get b=sC (ah s)):au (some 2) (.ptr b 0) h=some (.agg (ah s)):=by rw [aj g,jZ (cs:=ah s) (n:=2) rfl]
theorem sN(h:∀ j,j<n->p j=true):Kb p n=true:=by
 rw [Kb,List.all_eq_true];exact fun x hx=>h x (mem_range.1 hx)
theorem me(hi:i<n)(h:p i=false):Kb p n=false:=by
 rw [eq_false_iff];intro hh;rw [Kb,List.all_eq_true] at hh;have:=hh i (mem_range.2 hi);rw [h] at this;cases this
theorem yY(h:Kb p n=true)(hi:i<n):p i=true:=by
 rw [Kb,List.all_eq_true] at h;exact h i (mem_range.2 hi)
theorem MP{k:Nat}{l:List (Sl Int)}{t:Sl Int}(h:oW n k l i=true)(ht:l[i]?=some t):t.l.length=k:=by
 unfold oW at h;rw [ht] at h;simp only [and_eq_true,decide_eq_true_eq] at h;exact h.1
theorem dO{n k:Nat}{r:Rel}(hr:r.ok)(ha:r.arity=(k:Int)){h:Heap}{K:Out->Heap->Bool}(hK:K (.ret (.bool (Az n k r.aM.l))) h=true):Sem TP 109 [I6 (n:Int),.agg (aY r)] h K:=by
 refine Sem.data (r:=.bool (Az n k r.aM.l)) ?_ (by simp [AV.cP,AV.pure,uv]) hK;clear hK;refine F.DK ?_;rw [F.FM];have b0:(Heap.alloc Heap.empty (.cells (aY r))).get 0=sC (aY r):=ak _ _;simp only [cD (gJ r),dr,aZ];generalize (Heap.alloc Heap.empty (.cells (aY r)))=H at b0 ⊢;have fin:∀ b:Bool,b=Az n k r.aM.l->tV (.bool (Az n k r.aM.l)) (.ret (.bool b)) H=true:=fun b hb=>by rw [hb];exact eB rfl
 simp only [aO,aj b0,aY];refine aB 0 r.aM.l.length (zero_le _) (fun i e h'=>h'=H/\e 0=I6 (n:Int)/\e 3 = .ptr 0 0/\e 8=kM r.aM/\e 9=I6 (r.aM.l.length:Int)/\e 10=I6 (i:Int)/\∀ j,j<i->oW n k r.aM.l j=true) ⟨rfl,rfl,rfl,rfl,rfl,rfl,fun j hj=>by omega⟩ ?_ ?_
 ·rintro i e h' _ hi ⟨rfl,e0,e3,e8,e9,iJ,ht⟩ K' hn gl Nr hp;obtain ⟨t,hv⟩:=dM hi;have hto:t.l.length<=cw:=hr.2.2 t (ij hv)
  have bad:oW n k r.aM.l i=false->F.dO.cK (tV (.bool (Az n k r.aM.l))) .ret (sM (cF e 4 bF) 42 h')=true:=fun hb=>by
   rw [F.dO.bg];simp only [kC,reduceIte];exact fin _ (me hi hb).symm
  rw [F.dO.aP];simp only [e0,e3,e8,e9,iJ,aO,aU hi,aQ r.aM hi,eY hv,aj b0,aY,cy,ha];by_cases h1:t.l.length=k
  ·simp only [fh (by omega:(t.l.length:Int)=(k:Int)),Bool.not_true,aK];refine af (yX hto ?_);simp only [aO]
   cases h2:jN n t.l with
   |false=>
    simp only [Bool.not_false,aL];rw [Nr,F.dO.bg];simp only [kC,reduceEqDiff,reduceIte];exact fin _ (me hi (by simp [oW,hv,h2])).symm
   |true=>
    simp only [Bool.not_true,aK]
    cases i with
    |zero=>
     simp only [show decide ((0:Int)<((0:Nat):Int))=false from rfl,aK,aE hi hr.2.1,dr];refine hn _ _ ⟨rfl,e0,e3,e8,e9,rfl,fun j hj=>?_⟩;obtain rfl:j=0:=by omega
     simp [oW,hv,h1,h2]
    |succ i=>
     have hi0:i<r.aM.l.length:=(by omega);obtain ⟨p,KI⟩:=dM hi0;have sF:p.l.length=k:=MP (ht i (by omega)) KI;have hpo:p.l.length<=cw:=hr.2.2 p (ij KI)
     have BI:aF .sub (I6 ((i+1:Nat):Int)) (I6 1)=some (I6 (i:Int)):=by
      have:=hr.2.1;unfold cw at this;rw [uf (by omega) (by omega)];congr 2;omega
     simp only [fh (by omega:(0:Int)<((i+1:Nat):Int)),aL,aO,aj b0,aY,BI,aQ r.aM hi0,eY KI];refine af (IJ hpo (by omega) fun c hc=>?_);simp only [aO,hc]
     cases h3:dA p.l t.l with
     |false=>
      simp only [Bool.not_false,aL];rw [Nr,F.dO.bg];simp only [kC,reduceEqDiff,reduceIte];exact fin _ (me hi (by simp [oW,hv,KI,h3])).symm
     |true=>
      simp only [Bool.not_true,aK,aE hi hr.2.1,dr];refine hn _ _ ⟨rfl,e0,e3,e8,e9,rfl,fun j hj=>?_⟩;by_cases Mc:j<i+1
      ·exact ht j Mc
      ·obtain rfl:j=i+1:=by omega
       simp [oW,hv,KI,h1,h2,h3]
  ·simp only [eR (by omega:¬ (t.l.length:Int)=(k:Int)),Bool.not_false,aL];rw [Nr,F.dO.bg];simp only [kC,reduceEqDiff,reduceIte];exact fin _ (me hi (by simp [oW,hv,h1])).symm
 ·rintro e h' ⟨rfl,e0,e3,e8,e9,iJ,ht⟩ K' gl;rw [F.dO.aP];simp only [e9,iJ,aO,aR];rw [gl,F.dO.aC];exact fin _ (sN ht).symm
theorem iF{n:Nat}(h1:1<=n)(h2:n<=64){r:Rel}(hr:r.ok){h:Heap}{K:Out->Heap->Bool}(hK:K (.ret (.bool (qu n r))) h=true):Sem TP 115 [I6 (n:Int),.agg (aY r)] h K:=by
 refine Sem.data (r:=.bool (qu n r)) ?_ (by simp [AV.cP,AV.pure,uv]) hK;clear hK;refine F.JT ?_;rw [F.Mv];have b0:(Heap.alloc Heap.empty (.cells (aY r))).get 0=sC (aY r):=ak _ _;simp only [cD (gJ r),dr,aZ];generalize (Heap.alloc Heap.empty (.cells (aY r)))=H at b0 ⊢;have fin:∀ b:Bool,b=qu n r->tV (.bool (qu n r)) (.ret (.bool b)) H=true:=fun b hb=>by rw [hb];exact eB rfl
 simp only [aO,aj b0,aY];refine af (fL ?_);simp only [aO]
 cases hn:fG r.name with
 |false=>simp only [Bool.not_false,aL];exact fin _ (by simp [qu,hn])
 |true=>
 simp only [Bool.not_true,aK,aO,aj b0,aY];by_cases ha:r.arity<0
 ·simp only [fh ha,aL];exact fin _ (by rw [qu,eR (by omega:¬ 0<=r.arity)];simp)
 simp only [eR ha,aK];by_cases Tx:12<r.arity
 ·simp only [fh Tx,aL];exact fin _ (by rw [qu,eR (by omega:¬ r.arity<=12)];simp)
 simp only [eR Tx,aK];obtain ⟨k,hk⟩:∃ k:Nat,r.arity=(k:Int):=⟨r.arity.toNat,by omega⟩
 rw [hk];refine af (je h1 h2 (show k<=cw by unfold cw;omega) fun v v1 v2=>?_);simp only [aO]
 have F9:qu n r=(decide (n ^ k<=4096)&&Az n k r.aM.l):=by
  rw [qu,hn,fh (by omega:0<=r.arity),fh (by omega:r.arity<=12),hk];rfl
 replace fin:∀ b:Bool,b=(decide (n ^ k<=4096)&&Az n k r.aM.l)->tV (.bool (qu n r)) (.ret (.bool b)) H=true:=fun b hb=>fin b (hb.trans F9.symm);by_cases hc:n ^ k<=4096
 ·have:=v1 hc;simp only [eR (by omega:¬ (4096:Int)<(v:Int)),aK];replace fin:∀ b:Bool,b=Az n k r.aM.l->tV (.bool (qu n r)) (.ret (.bool b)) H=true:=fun b hb=>fin b (by rw [fh hc,Bool.true_and];exact hb);refine aB 0 r.aM.l.length (zero_le _) (fun i e h'=>h'=H/\e 0=I6 (n:Int)/\e 3 = .ptr 0 0/\e 5=I6 (i:Int)/\∀ j,j<i->oW n k r.aM.l j=true) ⟨rfl,rfl,rfl,rfl,fun j hj=>by omega⟩ ?_ ?_
  ·rintro i e h' _ hi ⟨rfl,e0,e3,e5,ht⟩ K' hn gl Nr hp;obtain ⟨t,hv⟩:=dM hi;have hto:t.l.length<=cw:=hr.2.2 t (ij hv);rw [F.iF.aP];simp only [e0,e3,e5,aO,aj b0,aY,aU hi,aQ r.aM hi,eY hv,cy,hk];by_cases q1:t.l.length=k
   ·simp only [fh (by omega:(t.l.length:Int)=(k:Int)),Bool.not_true,aK];refine af (jq hto ?_);simp only [aO]
    cases q2:jN n t.l with
    |false=>
     simp only [Bool.not_false,aL];rw [Nr,F.iF.bg];simp only [kC,reduceEqDiff,reduceIte];exact fin _ (me hi (by simp [oW,hv,q2])).symm
    |true=>
     simp only [Bool.not_true,aK]
     cases i with
     |zero=>
      simp only [show decide ((0:Int)<((0:Nat):Int))=false from rfl,aK,aE hi hr.2.1,dr];refine hn _ _ ⟨rfl,e0,e3,rfl,fun j hj=>?_⟩;obtain rfl:j=0:=by omega
      simp [oW,hv,q1,q2]
     |succ i=>
      have hi0:i<r.aM.l.length:=(by omega);obtain ⟨p,KI⟩:=dM hi0;have sF:p.l.length=k:=MP (ht i (by omega)) KI;have hpo:p.l.length<=cw:=hr.2.2 p (ij KI)
      have BI:aF .sub (I6 ((i+1:Nat):Int)) (I6 1)=some (I6 (i:Int)):=by
       have:=hr.2.1;unfold cw at this;rw [uf (by omega) (by omega)];congr 2;omega
      simp only [fh (by omega:(0:Int)<((i+1:Nat):Int)),aL,aO,aj b0,aY,BI,aQ r.aM hi0,aQ r.aM hi,eY KI,eY hv];refine af (gI hpo (by omega) ?_);simp only [aO]
      cases q3:dA p.l t.l with
      |false=>
       simp only [Bool.not_false,aL];rw [Nr,F.iF.bg];simp only [kC,reduceEqDiff,reduceIte];exact fin _ (me hi (by simp [oW,hv,KI,q3])).symm
      |true=>
       simp only [Bool.not_true,aK,aE hi hr.2.1,dr];refine hn _ _ ⟨rfl,e0,e3,rfl,fun j hj=>?_⟩;by_cases Mc:j<i+1
       ·exact ht j Mc
       ·obtain rfl:j=i+1:=by omega
        simp [oW,hv,KI,q1,q2,q3]
   ·simp only [eR (by omega:¬ (t.l.length:Int)=(k:Int)),Bool.not_false,aL];rw [Nr,F.iF.bg];simp only [kC,reduceEqDiff,reduceIte];exact fin _ (me hi (by simp [oW,hv,q1])).symm
  ·rintro e h' ⟨rfl,e0,e3,e5,ht⟩ K' gl;rw [F.iF.aP];simp only [e3,e5,aO,aj b0,aY,aR];rw [gl,F.iF.aC];exact fin _ (sN ht).symm
 ·have:=v2 (by omega);simp only [fh (by omega:(4096:Int)<(v:Int)),aL];exact fin _ (by rw [eR hc];rfl)
def yZ{α:Type}(p:α->Bool):List α->Nat->Int
 |[],_=>-1
 |x :: l,i=>if p x=true then (i:Int) else yZ p l (i+1)
def jh{α:Type}(p:α->Bool)(l:List α):Int:=yZ p l 0
theorem Pb{p:α->Bool}{l:List α}{v:α}(hv:l[i]?=some v):yZ p (l.drop i) i=if p v=true then (i:Int) else yZ p (l.drop (i+1)) (i+1):=by
 have h1:=(lR.1 hv).1;rw [drop_eq_getElem_cons h1];rw [jQ h1] at hv;cases hv;rfl
theorem K6{α:Type}(p:α->Bool):∀ (l:List α) (i:Nat),decide (0<=yZ p l i)=l.any p
 |[],i=>rfl
 |x :: l,i=>by
  rw [yZ,any_cons]
  cases hp:p x with
  |true=>simp
  |false=>simpa using K6 p l (i+1)
theorem RO(p:α->Bool)(l:List α):decide (0<=jh p l)=l.any p:=K6 p l 0
theorem uK{x:AV}{l:List Rel}(hv:View aY 3 x l)(hl:l.length<=cw){a b:List AV}{p:Rel->Bool}
  (hp:∀ (v:Rel) (h':Heap),aV h h'->∀ (K:Out->Heap->Bool),(∀ Ga,aV h' Ga->K (.ret (.bool (p v))) Ga=true)->Sem TP g (a++([.agg (aY v)]++b)) h' K)
  (hK:∀ h',aV h h'->K (.ret (I6 (jh p l))) h'=true):Sem TP 76 [x,.func g a b] h K:=by
 refine F.m8 ?_;rw [F.nF];simp only [hv.len,dr];refine aB 0 l.length (zero_le _) (fun i e h'=>aV h h'/\e 0=x/\e 1 = .func g a b/\e 7=I6 (l.length:Int)/\e 8=I6 (i:Int)/\jh p l=yZ p (l.drop i) i) ⟨aV.refl _,rfl,rfl,rfl,rfl,rfl⟩ ?_ ?_
 ·rintro i e h' _ hi ⟨hx,e0,e1,e7,e8,ht⟩ K' hn gl hr xb;obtain ⟨v,hvi⟩:=dM hi;obtain ⟨cs,o,v1,v2,_⟩:=hv.at_ i v hvi;rw [Pb hvi] at ht;rw [F.bA.aP];simp only [e0,e1,e7,e8,aO,aU hi,v1,v2,iy];refine af (hp v h' hx _ fun Ga fK=>?_);simp only [aO]
  cases hq:p v with
  |true=>
   simp only [aL];rw [hr,F.bA.bg];simp only [kC,reduceEqDiff,reduceIte];rw [if_pos hq] at ht;rw [ht] at hK;exact hK _ (hx.trans fK)
  |false=>
   simp only [aK,aE hi hl,dr];rw [if_neg (by rw [hq];decide)] at ht;exact hn _ _ ⟨hx.trans fK,e0,e1,e7,rfl,ht⟩
 ·rintro e h' ⟨hx,e0,e1,e7,e8,ht⟩ K' gl;rw [F.bA.aP];simp only [e0,e1,e7,e8,aO,aR];rw [gl,F.bA.aC];rw [drop_of_length_le (dK _)] at ht;rw [ht] at hK;exact hK _ hx
theorem D2{x:AV}{l:List Rel}(hv:View aY 3 x l)(hl:l.length<=cw){a b:List AV}{p:Rel->Bool}
  (hp:∀ (v:Rel) (h':Heap),aV h h'->∀ (K:Out->Heap->Bool),(∀ Ga,aV h' Ga->K (.ret (.bool (p v))) Ga=true)->Sem TP g (a++([.agg (aY v)]++b)) h' K)
  (hK:∀ h',aV h h'->K (.ret (.bool (l.any p))) h'=true):Sem TP 110 [x,.func g a b] h K:=by
 refine F.mz ?_;rw [F.mJ];refine af (uK hv hl hp fun h' hx=>?_);simp only [aO];rw [RO];exact hK _ hx
theorem Ty{s:ct}{r:Rel}(hr:s.aA.l[i]?=some r):au (some 3) (.dL (s.aA.l.flatMap aY) (i*3)) h=some (.agg (aY r)):=dB dY hr
theorem aaK{r v:Rel}(hb:h.get b=sC (aY r))(QO:b<h.next)(h':Heap)(hx:aV h h')(K:Out->Heap->Bool)(hK:∀ Ga,aV h' Ga->K (.ret (.bool (v.name==r.name))) Ga=true) :
  Sem TP 111 ([]++([.agg (aY v)]++[.ptr b 0])) h' K:=by
 refine F.CE ?_;rw [F.DL];have gN:h'.get b=sC (aY r):=by rw [hx.get b QO];exact hb
 have fK:aV h' (Heap.alloc h' (.cells (aY v))):=aV.alloc _ _;have g0:(Heap.alloc h' (.cells (aY v))).get h'.next=sC (aY v):=ak _ _
 have g1:(Heap.alloc h' (.cells (aY v))).get b=sC (aY r):=by rw [fK.get b (Nat.lt_of_lt_of_le QO hx.next)];exact gN
 simp only [cD (gJ v),dr];generalize (Heap.alloc h' (.cells (aY v)))=H at g0 g1 fK ⊢;simp only [aO,aj g0,aj g1];rw [show (aY v)[0]?=some (.str v.name) from rfl,show (aY r)[0]?=some (.str r.name) from rfl];simp only [aO];exact hK _ fK
theorem eF{s:ct}(hs:s.ok){h:Heap}{K:Out->Heap->Bool}(hK:K (.ret (.bool (cY s))) h=true):Sem TP 64 [.agg (ah s)] h K:=by
 refine Sem.data (r:=.bool (cY s)) ?_ (by simp [AV.cP,AV.pure,dI]) hK;clear hK;refine F.FJ ?_;rw [F.HS];have b0:(Heap.alloc Heap.empty (.cells (ah s))).get 0=sC (ah s):=ak _ _;have bn:1<=(Heap.alloc Heap.empty (.cells (ah s))).next:=dK _
 simp only [cD (bU s),dr,aZ];generalize (Heap.alloc Heap.empty (.cells (ah s)))=H at b0 bn ⊢;have fin:∀ (b:Bool) (H:Heap),b=cY s->tV (.bool (cY s)) (.ret (.bool b)) H=true:=fun b H hb=>by rw [hb];exact eB rfl
 generalize tV (.bool (cY s))=K at fin ⊢;simp only [aO,aj b0,ah];by_cases s1:s.size<1
 ·simp only [fh s1,aL];exact fin _ _ (by rw [cY,eR (by omega:¬ 1<=s.size),Bool.false_and])
 simp only [eR s1,aK];by_cases s2:64<s.size
 ·simp only [fh s2,aL];exact fin _ _ (by rw [cY,eR (by omega:¬ s.size<=64),Bool.false_and,Bool.and_false])
 simp only [eR s2,aK];by_cases s3:8<s.aA.l.length
 ·simp only [fh (by omega:(8:Int)<(s.aA.l.length:Int)),aL];exact fin _ _ (by rw [cY,eR (by omega:¬ s.aA.l.length<=8),Bool.false_and,Bool.and_false,Bool.and_false])
 simp only [eR (by omega:¬ (8:Int)<(s.aA.l.length:Int)),aK]
 replace fin:∀ (b:Bool) (H:Heap),b=Kb (tK s) s.aA.l.length->K (.ret (.bool b)) H=true:=fun b H hb=>fin b H (by
  rw [cY,fh (by omega:1<=s.size),fh (by omega:s.size<=64),fh (by omega:s.aA.l.length<=8)];exact hb)
 obtain ⟨n,hn⟩:∃ n:Nat,s.size=(n:Int):=⟨s.size.toNat,by omega⟩
 have vE:s.size.toNat=n:=by omega
 refine aB 0 s.aA.l.length (zero_le _) (fun i e h'=>h'.get 0=sC (ah s)/\1<=h'.next/\e 1 = .ptr 0 0/\e 20=qm s.aA/\e 21=I6 (s.aA.l.length:Int)/\e 22=I6 (i:Int)/\∀ j,j<i->tK s j=true) ⟨b0,bn,rfl,rfl,rfl,rfl,fun j hj=>by omega⟩ ?_ ?_
 ·rintro i e h' _ hi ⟨q0,qn,e1,MK,Gx,Gw,ht⟩ K' mS gl Nr hp;obtain ⟨r,hv⟩:=dM hi;have XA:r.ok:=hs.2 r (ij hv);have wu:tK s i=(qu n r&&!((s.aA.l.take i).any fun q=>q.name==r.name)):=by rw [tK,hv,vE]
  have bad:∀ (e:Env) (h:Heap),tK s i=false->e 2=bF->F.eF.cK K .ret (sM e 63 h)=true:=fun e h hb he=>by
   rw [F.eF.bg,he];exact fin _ _ (me hi hb).symm
  obtain ⟨H,jL,g1,go,gn⟩:=cA (h:=h') (zs:=[.str [],I6 0,.ai]) (cs:=aY r) (n:=3) rfl rfl (gJ r);have p0:H.get 0=sC (ah s):=by rw [go _ (by omega)];exact q0
  rw [F.eF.aP];simp only [e1,MK,Gx,Gw,aO,aU hi,aQ s.aA hi,Ty hv,jL,aj g1];rw [show (aY r)[0]?=some (.str r.name) from rfl];simp only [aO];refine af (eX ?_);simp only [aO]
  cases w1:fG r.name with
  |false=>
   simp only [Bool.not_false,aL];rw [Nr];exact bad _ _ (by rw [wu,qu,w1];simp) rfl
  |true=>
  simp only [Bool.not_true,aK,aO,aj g1];rw [show (aY r)[1]?=some (I6 r.arity) from rfl];simp only [aO];by_cases w2:r.arity<0
  ·simp only [fh w2,aL];rw [Nr];exact bad _ _ (by rw [wu,qu,eR (by omega:¬ 0<=r.arity)];simp) rfl
  simp only [eR w2,aK];by_cases w3:12<r.arity
  ·simp only [fh w3,aL];rw [Nr];exact bad _ _ (by rw [wu,qu,eR (by omega:¬ r.arity<=12)];simp) rfl
  simp only [eR w3,aK,aj p0,aO];rw [show (ah s)[0]?=some (I6 s.size) from rfl];obtain ⟨k,hk⟩:∃ k:Nat,r.arity=(k:Int):=⟨r.arity.toNat,by omega⟩
  simp only [aO,hn,hk];refine af (fB (by omega) (by omega) (show k<=cw by unfold cw;omega) ?_);simp only [aO]
  have aaL:tK s i=(decide (n ^ k<=4096)&&Az n k r.aM.l&&!((s.aA.l.take i).any fun q=>q.name==r.name)):=by
   rw [wu,qu,w1,fh (by omega:0<=r.arity),fh (by omega:r.arity<=12),hk];simp
  by_cases w4:n ^ k<=4096
  ·simp only [RM,if_pos w4,eR (by omega:¬ ((n ^ k:Nat):Int)<0),aK,aO,aj p0,aj g1,jZ (dY r)];rw [show (ah s)[0]?=some (I6 s.size) from rfl];simp only [aO,hn];refine af (dO XA hk ?_);simp only [aO]
   cases w5:Az n k r.aM.l with
   |false=>
    simp only [Bool.not_false,aL];rw [Nr];exact bad _ _ (by rw [aaL,w5];simp) rfl
   |true=>
   simp only [Bool.not_true,aK,aO,aj p0];rw [show (ah s)[1]?=some (qm s.aA) from rfl];obtain ⟨a,ha,hva⟩:=U1 dY s.aA (Nat.le_of_lt hi);simp only [aO,ha];have hlt:(s.aA.l.take i).length<=cw:=by rw [length_take];have:=hs.1;omega
   refine af (D2 (p:=fun q=>q.name==r.name) hva hlt (fun v h2 fK K2 YD=>aaK g1 (by omega) h2 fK K2 YD) fun h2 fK=>?_);simp only [aO]
   cases w6:(s.aA.l.take i).any fun q=>q.name==r.name with
   |true=>
    simp only [aL];rw [Nr];exact bad _ _ (by rw [aaL,w6];simp) rfl
   |false=>
    simp only [aK,aE hi hs.1,dr];refine mS _ _ ⟨by rw [fK.get 0 (by omega)];exact p0,by have:=fK.next;omega,e1,MK,Gx,rfl,fun j hj=>?_⟩;by_cases Mc:j<i
    ·exact ht j Mc
    ·obtain rfl:j=i:=by omega
     rw [aaL,w5,w6,fh w4];rfl
  ·simp only [RM,if_neg w4,fh (by omega:(-1:Int)<0),aL];rw [Nr];exact bad _ _ (by rw [aaL,eR w4];simp) rfl
 ·rintro e h' ⟨q0,qn,e1,MK,Gx,Gw,ht⟩ K' gl;rw [F.eF.aP];simp only [Gx,Gw,aO,aR];rw [gl,F.eF.aC];exact fin _ _ (sN ht).symm
theorem XB{p:α->Bool}{l:List α}{k:Nat}{a:α}(ha:l[i]?=some a)(hi:i<k)(hp:p a=true):(l.take k).any p=true:=by
 rw [List.any_eq_true];exact ⟨a,ij (by rw [getElem?_take_of_lt hi];exact ha),hp⟩
theorem vr{s:ct}{r:Rel}(hr:s.aA.l[i]?=some r):au none (.dL (s.aA.l.flatMap aY) (i*3)) h=some (.str r.name):=by
 have:=dU (h:=h) dY hr (k:=0) (by omega);rw [Nat.add_zero] at this;rw [this];rfl
theorem cJ{s:ct}(hs:s.ok){h:Heap}{K:Out->Heap->Bool}(hK:K (.ret (.bool (cY s))) h=true):Sem TP 66 [.agg (ah s)] h K:=by
 refine Sem.data (r:=.bool (cY s)) ?_ (by simp [AV.cP,AV.pure,dI]) hK;clear hK;refine F.FI ?_;rw [F.HO];have b0:(Heap.alloc Heap.empty (.cells (ah s))).get 0=sC (ah s):=ak _ _;simp only [cD (bU s),dr,aZ];generalize (Heap.alloc Heap.empty (.cells (ah s)))=H at b0 ⊢;have fin:∀ (b:Bool),b=cY s->tV (.bool (cY s)) (.ret (.bool b)) H=true:=fun b hb=>by rw [hb];exact eB rfl
 generalize tV (.bool (cY s))=K at fin ⊢;have ls:=lA b0 0 rfl;have lr:au none (.ptr 0 (0+1)) H=some (qm s.aA):=by rw [aj b0];rfl
 rw [Nat.zero_add] at lr;simp only [aO,ls,lr];by_cases s1:s.size<1
 ·simp only [fh s1,aL];exact fin _ (by rw [cY,eR (by omega:¬ 1<=s.size),Bool.false_and])
 simp only [eR s1,aK];by_cases s2:64<s.size
 ·simp only [fh s2,aL];exact fin _ (by rw [cY,eR (by omega:¬ s.size<=64),Bool.false_and,Bool.and_false])
 simp only [eR s2,aK];by_cases s3:8<s.aA.l.length
 ·simp only [fh (by omega:(8:Int)<(s.aA.l.length:Int)),aL];exact fin _ (by rw [cY,eR (by omega:¬ s.aA.l.length<=8),Bool.false_and,Bool.and_false,Bool.and_false])
 simp only [eR (by omega:¬ (8:Int)<(s.aA.l.length:Int)),aK]
 replace fin:∀ (b:Bool),b=Kb (tK s) s.aA.l.length->K (.ret (.bool b)) H=true:=fun b hb=>fin b (by
  rw [cY,fh (by omega:1<=s.size),fh (by omega:s.size<=64),fh (by omega:s.aA.l.length<=8)];exact hb)
 obtain ⟨n,hn⟩:∃ n:Nat,s.size=(n:Int):=⟨s.size.toNat,by omega⟩
 have vE:s.size.toNat=n:=by omega
 rw [hn] at ls;refine aB 0 s.aA.l.length (zero_le _) (fun i e h'=>h'=H/\e 1 = .ptr 0 0/\e 3=I6 (i:Int)/\∀ j,j<i->tK s j=true) ⟨rfl,rfl,rfl,fun j hj=>by omega⟩ ?_ ?_
 ·rintro i e h' _ hi ⟨rfl,e1,e3,ht⟩ K' mS gl Nr hp;obtain ⟨r,hv⟩:=dM hi;have XA:r.ok:=hs.2 r (ij hv);have wu:tK s i=(qu n r&&!((s.aA.l.take i).any fun q=>q.name==r.name)):=by rw [tK,hv,vE]
  have bad:∀ (e:Env),tK s i=false->e 2=bF->F.cJ.cK K .ret (sM e 53 h')=true:=fun e hb he=>by
   rw [F.cJ.bg,he];exact fin _ (me hi hb).symm
  rw [F.cJ.aP];simp only [e1,e3,aO,ls,lr,aU hi,aQ s.aA hi,Ty hv];refine af (iF (by omega) (by omega) XA ?_);simp only [aO]
  cases w1:qu n r with
  |false=>
   simp only [Bool.not_false,aL];rw [Nr];exact bad _ (by rw [wu,w1,Bool.false_and]) rfl
  |true=>
  simp only [Bool.not_true,aK];refine aB 0 i (zero_le _) (fun k e h2=>h2=h'/\e 1 = .ptr 0 0/\e 3=I6 (i:Int)/\e 4=I6 (k:Int)/\((s.aA.l.take k).any fun q=>q.name==r.name)=false) ⟨rfl,e1,e3,rfl,rfl⟩ ?_ ?_
  ·rintro k e h2 _ hk ⟨rfl,e1,e3,e4,hk2⟩ K2 qj fK r7 Ay;have hki:k<s.aA.l.length:=by omega
   obtain ⟨q,hvk⟩:=dM hki;rw [F.cJ.cU];simp only [e1,e3,e4,aO,lr,aU hk,aQ s.aA hi,aQ s.aA hki,vr hv,vr hvk]
   cases w2:q.name==r.name with
   |true=>
    simp only [aL];rw [r7,F.cJ.k7,Nr];exact bad _ (by rw [wu,XB hvk hk w2];simp) rfl
   |false=>
    simp only [aK,aE hk (by have:=hs.1;omega),dr];exact qj _ _ ⟨rfl,e1,e3,rfl,yL hvk hk2 w2⟩
  ·rintro e h2 ⟨rfl,e1,e3,e4,hk2⟩ K2 fK;rw [F.cJ.cU];simp only [e3,e4,aO,aR];rw [fK,F.cJ.cm];simp only [aO,reduceEqDiff,reduceIte,e3,aE hi hs.1];refine mS _ _ ⟨rfl,e1,rfl,fun j hj=>?_⟩;by_cases Mc:j<i
   ·exact ht j Mc
   ·obtain rfl:j=i:=by omega
    rw [wu,w1,hk2];rfl
 ·rintro e h' ⟨rfl,e1,e3,ht⟩ K' gl;rw [F.cJ.aP];simp only [e1,e3,aO,lr,aR];rw [gl,F.cJ.aC];exact fin _ (sN ht).symm
def fe(nm:cc)(k:Int)(q:Rel):Bool:=(q.name==nm)&&decide (q.arity=k)
def dN(nm:cc)(q:Rel):Bool:=q.name==nm
theorem fM{s:ct}(hs:s.ok){nm:cc}{h:Heap}{K:Out->Heap->Bool}(hK:K (.ret (I6 (jh (dN nm) s.aA.l))) h=true):Sem TP 69 [.agg (ah s),.str nm] h K:=by
 refine Sem.data (r:=I6 (jh (dN nm) s.aA.l)) ?_ (by simp [AV.cP,AV.pure,dI]) hK;clear hK;refine F.HR ?_;rw [F.JQ];have b0:(Heap.alloc Heap.empty (.cells (ah s))).get 0=sC (ah s):=ak _ _;simp only [cD (bU s),dr,aZ];generalize (Heap.alloc Heap.empty (.cells (ah s)))=H at b0 ⊢;have fin:∀ b:Int,b=jh (dN nm) s.aA.l->tV (I6 (jh (dN nm) s.aA.l)) (.ret (I6 b)) H=true:=fun b hb=>by rw [hb];exact eB rfl
 have lr:=lA b0 1 rfl;refine aB 0 s.aA.l.length (zero_le _) (fun i e h'=>h'=H/\e 1 = .str nm/\e 2 = .ptr 0 0/\e 5=I6 (i:Int)/\jh (dN nm) s.aA.l=yZ (dN nm) (s.aA.l.drop i) i) ⟨rfl,rfl,rfl,rfl,rfl⟩ ?_ ?_
 ·rintro i e h' _ hi ⟨rfl,e1,e2,e5,ht⟩ K' hn gl hr hp;obtain ⟨r,hv⟩:=dM hi;rw [Pb hv] at ht;rw [F.fM.aP];simp only [e1,e2,e5,aO,lr,aU hi,aQ s.aA hi,vr hv]
  cases hq:r.name==nm with
  |true=>
   simp only [aL];rw [hr,F.fM.bg];rw [if_pos (show dN nm r=true from hq)] at ht;simp only [kC,reduceEqDiff,reduceIte];exact fin _ ht.symm
  |false=>
   simp only [aK,aE hi hs.1,dr];rw [if_neg (by rw [dN,hq];decide)] at ht;exact hn _ _ ⟨rfl,e1,e2,rfl,ht⟩
 ·rintro e h' ⟨rfl,e1,e2,e5,ht⟩ K' gl;rw [F.fM.aP];simp only [e1,e2,e5,aO,lr,aR];rw [gl,F.fM.aC];rw [drop_of_length_le (dK _)] at ht;exact fin _ ht.symm
theorem aeb{b1 b2:Nat}{v:Rel}{k:Int}(g1:h.get b1=sC [.str nm])(g2:h.get b2=sC [I6 k])(n1:b1<h.next)(n2:b2<h.next)(h':Heap)(hx:aV h h')(K:Out->Heap->Bool)(hK:∀ Ga,aV h' Ga->K (.ret (.bool (fe nm k v))) Ga=true) :
  Sem TP 94 ([]++([.agg (aY v)]++[.ptr b1 0,.ptr b2 0])) h' K:=by
 refine F.DM ?_;rw [F.FN];have fK:aV h' (Heap.alloc h' (.cells (aY v))):=aV.alloc _ _;have g0:(Heap.alloc h' (.cells (aY v))).get h'.next=sC (aY v):=ak _ _
 have q1:(Heap.alloc h' (.cells (aY v))).get b1=sC [.str nm]:=by rw [fK.get b1 (Nat.lt_of_lt_of_le n1 hx.next),hx.get b1 n1];exact g1
 have q2:(Heap.alloc h' (.cells (aY v))).get b2=sC [I6 k]:=by rw [fK.get b2 (Nat.lt_of_lt_of_le n2 hx.next),hx.get b2 n2];exact g2
 simp only [cD (gJ v),dr];generalize (Heap.alloc h' (.cells (aY v)))=H at g0 q1 q2 fK ⊢;simp only [aO,aj g0,aj q1,aj q2];rw [show (aY v)[0]?=some (.str v.name) from rfl,show (aY v)[1]?=some (I6 v.arity) from rfl];simp only [aO,cy];have:=hK _ fK;unfold fe at this
 cases hq:v.name==nm with
 |true=>simp only [aL];rw [hq,Bool.true_and] at this;exact this
 |false=>simp only [aK];rw [hq,Bool.false_and] at this;exact this
theorem wz{s:ct}(hs:s.ok){k:Int}(hK:K (.ret (I6 (jh (fe nm k) s.aA.l))) h=true):Sem TP 53 [.agg (ah s),.str nm,I6 k] h K:=by
 refine Sem.data (r:=I6 (jh (fe nm k) s.aA.l)) ?_ (by simp [AV.cP,AV.pure,dI]) hK;clear hK;refine F.HT ?_;rw [F.JS];simp only [cD (bU s),pM (x:=I6 _) rfl,pM (x:=.str _) rfl,dr,aZ,Heap.aD];have g0:(Heap.alloc (Heap.alloc (Heap.alloc Heap.empty (.cells (ah s))) (.cells [.str nm])) (.cells [I6 k])).get 0=sC (ah s):=by simp [Heap.aN,aZ]
 have g1:(Heap.alloc (Heap.alloc (Heap.alloc Heap.empty (.cells (ah s))) (.cells [.str nm])) (.cells [I6 k])).get 1=sC [.str nm]:=by simp [Heap.aN,aZ]
 have g2:(Heap.alloc (Heap.alloc (Heap.alloc Heap.empty (.cells (ah s))) (.cells [.str nm])) (.cells [I6 k])).get 2=sC [I6 k]:=by simp [Heap.aN,aZ]
 have gn:(Heap.alloc (Heap.alloc (Heap.alloc Heap.empty (.cells (ah s))) (.cells [.str nm])) (.cells [I6 k])).next=3:=rfl
 generalize (Heap.alloc (Heap.alloc (Heap.alloc Heap.empty (.cells (ah s))) (.cells [.str nm])) (.cells [I6 k]))=H at g0 g1 g2 gn ⊢;have lr:=lA g0 1 rfl;simp only [aO,reduceAdd,lr];refine af (uK (O9 dY s.aA) hs.1 (p:=fe nm k) (fun v h2 fK K2 YD=>aeb g1 g2 (by omega) (by omega) h2 fK K2 YD) fun h2 fK=>?_);simp only [aO];exact eB rfl
theorem kF{s:ct}{r:Rel}(hr:s.aA.l[i]?=some r):au none (.dL (s.aA.l.flatMap aY) (i*3+2)) h=some (kM r.aM):=by
 rw [dU dY hr (by omega)];rfl
theorem cC{s:ct}(hs:s.ok){b:Nat}{h:Heap}(hb:h.get b=sC (ah s)){K:Out->Heap->Bool}(hK:∀ x,K (.ret (.bool x)) h=true):Sem TP 42 [.slice b 0 1 2] h K:=by
 refine F.JN ?_;rw [F.Ms];have lr:=lA hb 1 rfl;have ia:jw 2 (.slice b 0 1 2) (I6 ((0:Nat):Int))=some (.ptr b 0):=rfl;have hl:∀ h:Heap,bK .slice (.slice b 0 1 2) h=some (I6 ((1:Nat):Int)):=fun _=>rfl
 have num:∀ e:Env,(∃ x:Int,e 4=I6 x)->F.cC.cK K (.exit 0) (sM e 89 h)=true:=fun e ⟨x,hx⟩=>by
  rw [F.cC.aC];simp only [hx,aO];exact hK _
 refine aB 0 1 (zero_le _) (fun i e h'=>h'=h/\e 0 = .slice b 0 1 2/\(∃ x:Int,e 3=I6 x)/\(∃ x:Int,e 4=I6 x)/\e 5=I6 (i:Int)) ⟨rfl,rfl,⟨0,rfl⟩,⟨0,rfl⟩,rfl⟩ ?_ ?_
 ·rintro i e h' _ hi ⟨rfl,e0,e3,e4,e5⟩ K' hn hx hr hp;obtain rfl:i=0:=by omega
  rw [F.cC.aP];simp only [e0,e5,hl,ia,lr,aO,aU hi];by_cases q1:12<s.aA.l.length
  ·simp only [fh (by omega:(12:Int)<(s.aA.l.length:Int)),aL];rw [hr,F.cC.bg];simp only [kC,reduceEqDiff,reduceIte];exact hK _
  simp only [eR (by omega:¬ (12:Int)<(s.aA.l.length:Int)),aK];refine aB 0 s.aA.l.length (zero_le _) (fun k e h2=>h2=h'/\e 0 = .slice b 0 1 2/\(∃ x:Int,e 3=I6 x)/\(∃ x:Int,e 4=I6 x)/\e 5=I6 ((0:Nat):Int)/\e 6=I6 (k:Int)) ⟨rfl,e0,e3,e4,e5,rfl⟩ ?_ ?_
  ·rintro k e h2 _ hk ⟨rfl,e0,⟨x3,e3⟩,e4,e5,e6⟩ K2 qj fK r7 Ay;obtain ⟨r,hv⟩:=dM hk;have XA:r.ok:=hs.2 r (ij hv);obtain ⟨y,hy⟩:=W5 x3 (r.aM.l.length:Int)
   have ret:∀ e:Env,e 2=bF->F.cC.kg K' .ret (sM e 89 h2)=true:=fun e he=>by
    rw [F.cC.k7,hr,F.cC.bg,he];exact hK _
   rw [F.cC.cU];simp only [e0,e3,e5,e6,ia,lr,aO,aU hk,aQ s.aA hk,kF hv,vr hv,hy]
   cases decide ((1500:Int)<y) with
   |true=>
    simp only [aL];rw [r7];exact ret _ rfl
   |false=>
   simp only [aK]
   cases decide ((1000:Int)<(r.name.length:Int)) with
   |true=>
    simp only [aL];rw [r7];exact ret _ rfl
   |false=>
   simp only [aK];refine aB 0 r.aM.l.length (zero_le _) (fun j e h3=>h3=h2/\e 0 = .slice b 0 1 2/\(∃ x:Int,e 3=I6 x)/\(∃ x:Int,e 4=I6 x)/\e 5=I6 ((0:Nat):Int)/\e 6=I6 (k:Int)/\e 7=I6 (j:Int)) ⟨rfl,e0,⟨y,rfl⟩,e4,e5,e6,rfl⟩ ?_ ?_
   ·rintro j e h3 _ hj ⟨rfl,e0,e3,⟨x4,e4⟩,e5,e6,e7⟩ K3 RP BY YA hp3;obtain ⟨t,ht⟩:=dM hj;obtain ⟨z,hz⟩:=W5 x4 (t.l.length:Int);rw [F.cC.lD];simp only [e0,e4,e5,e6,e7,ia,lr,aO,aQ s.aA hk,kF hv,aU hj,aQ r.aM hj,eY ht,hz,aE hj XA.2.1];exact RP _ _ ⟨rfl,e0,e3,⟨z,rfl⟩,e5,e6,rfl⟩
   ·rintro e h3 ⟨rfl,e0,e3,e4,e5,e6,e7⟩ K3 BY;rw [F.cC.lD];simp only [e0,e5,e6,e7,ia,lr,aO,aQ s.aA hk,kF hv,aR];rw [BY,F.cC.jo];simp only [aO,reduceEqDiff,reduceIte,e6,aE hk hs.1];exact qj _ _ ⟨rfl,e0,e3,e4,e5,rfl⟩
  ·rintro e h2 ⟨rfl,e0,e3,e4,e5,e6⟩ K2 fK;rw [F.cC.cU];simp only [e0,e5,e6,ia,lr,aO,aR];rw [fK,F.cC.cm];simp only [aO,reduceEqDiff,reduceIte,e5,aE hi (show (1:Nat)<=cw by unfold cw;omega)];exact hn _ _ ⟨rfl,e0,e3,e4,rfl⟩
 ·rintro e h' ⟨rfl,e0,e3,e4,e5⟩ K' hx;rw [F.cC.aP];simp only [e0,e5,hl,aO,aR];rw [hx];exact num _ e4
theorem Own.ki{enc:α->List AV}{k:Nat}{l:List α}(o:Own enc sz k h a l):aW (AV.dX a)=true/\(AV.dX a).length=1/\AV.dX a = [a]:=by cases o<;>exact ⟨rfl,rfl,rfl⟩
def Gb(s:ct)(y:cc×Int):Bool:=match s.aA.l.find? (dN y.1) with
 |some r=>decide (r.arity=y.2)
 |none=>false
theorem IK{α:Type}(p:α->Bool):∀ (l:List α) (i:Nat),(yZ p l i = -1/\l.find? p=none)\/∃ (j:Nat) (v:α),yZ p l i=((i+j:Nat):Int)/\l[j]?=some v/\l.find? p=some v
 |[],i=>.inl ⟨rfl,rfl⟩
 |x :: l,i=>by
  rw [yZ,find?_cons]
  cases hp:p x with
  |true=>exact .inr ⟨0,x,by simp,rfl,rfl⟩
  |false=>
   simp only [false_eq_true,if_false];rcases IK p l (i+1) with ⟨h1,h2⟩|⟨j,v,h1,h2,h3⟩
   ·exact .inl ⟨h1,h2⟩
   ·exact .inr ⟨j+1,v,by rw [h1];congr 1;omega,by simpa using h2,h3⟩
theorem lP(p:α->Bool)(l:List α):(jh p l = -1/\l.find? p=none)\/∃ (j:Nat) (v:α),jh p l=(j:Int)/\l[j]?=some v/\l.find? p=some v:=by
 rcases IK p l 0 with h|⟨j,v,h1,h2,h3⟩
 ·exact .inl h
 ·exact .inr ⟨j,v,by rw [jh,h1,Nat.zero_add],h2,h3⟩
theorem zT{s:ct}{r:Rel}(hr:s.aA.l[i]?=some r):au none (.dL (s.aA.l.flatMap aY) (i*3+1)) h=some (I6 r.arity):=by
 rw [dU dY hr (by omega)];rfl
theorem aiY{y:cc×Int}(hy:x.l[i]?=some y):au none (.dL (x.l.flatMap rS) (i*2)) h=some (.str y.1):=by
 have:=dU (h:=h) tG hy (k:=0) (by omega);rw [Nat.add_zero] at this;rw [this];rfl
theorem aec{y:cc×Int}(hy:x.l[i]?=some y):au none (.dL (x.l.flatMap rS) (i*2+1)) h=some (I6 y.2):=by
 rw [dU tG hy (by omega)];rfl
theorem U2(y:cc×Int):AV.cP (rS y)=true:=rfl
theorem gH{s:ct}(hs:s.ok){x:Sl (cc×Int)}(hx:x.l.length<=cw){h:Heap}{K:Out->Heap->Bool}(hK:K (.ret (.bool (x.l.all (Gb s)))) h=true):Sem TP 67 [.agg (ah s),dR rS 2 x] h K:=by
 refine Sem.data (r:=.bool (x.l.all (Gb s))) ?_ (by simp [AV.cP,AV.pure,dI,br U2]) hK;clear hK;refine F.HP ?_;rw [F.JO];have b0:(Heap.alloc Heap.empty (.cells (ah s))).get 0=sC (ah s):=ak _ _;simp only [cD (bU s),dr,aZ];generalize (Heap.alloc Heap.empty (.cells (ah s)))=H at b0 ⊢;have fin:∀ b:Bool,b=x.l.all (Gb s)->tV (.bool (x.l.all (Gb s))) (.ret (.bool b)) H=true:=fun b hb=>by rw [hb];exact eB rfl
 have lr:=lA b0 1 rfl;have lw:au (some 2) (.ptr 0 0) H=some (.agg (ah s)):=by rw [aj b0,jZ (cs:=ah s) (n:=2) rfl]
 refine aB 0 x.l.length (zero_le _) (fun i e h'=>h'=H/\e 1=dR rS 2 x/\e 2 = .ptr 0 0/\e 5=I6 (i:Int)/\(x.l.take i).all (Gb s)=true) ⟨rfl,rfl,rfl,rfl,rfl⟩ ?_ ?_
 ·rintro i e h' _ hi ⟨rfl,e1,e2,e5,ht⟩ K' hn gl hr hp;obtain ⟨y,hv⟩:=dM hi;rw [F.gH.aP];simp only [e1,e2,e5,aO,lw,aU hi,aQ x hi,aiY hv];refine af (fM hs ?_);simp only [aO];rcases lP (dN y.1) s.aA.l with ⟨h1,h2⟩|⟨j,r,h1,h2,h3⟩
  ·rw [h1];simp only [show decide ((-1:Int)<0)=true from rfl,aL];rw [hr,F.gH.bg];simp only [kC,reduceEqDiff,reduceIte];exact fin _ (all_false hv (by rw [Gb,h2])).symm
  ·rw [h1];have hj:j<s.aA.l.length:=(lR.1 h2).1;simp only [eR (by omega:¬ ((j:Int)<0)),aK,aO,lr,aQ s.aA hj,zT h2,aec hv,cy];by_cases hq:r.arity=y.2
   ·simp only [fh hq,Bool.not_true,aK,aE hi hx,dr];exact hn _ _ ⟨rfl,e1,e2,rfl,lE hv ht (by rw [Gb,h3];exact fh hq)⟩
   ·simp only [eR hq,Bool.not_false,aL];rw [hr,F.gH.bg];simp only [kC,reduceEqDiff,reduceIte];exact fin _ (all_false hv (by rw [Gb,h3];exact eR hq)).symm
 ·rintro e h' ⟨rfl,e1,e2,e5,ht⟩ K' gl;rw [F.gH.aP];simp only [e1,e5,aO,aR];rw [gl,F.gH.aC];rw [jD (dK _)] at ht;exact fin _ ht.symm
theorem RQ(d:List Bool):d.map bv=d.flatMap Hh:=by
 induction d with
 |nil=>rfl
 |cons a d ih=>rw [map_cons,flatMap_cons,ih];rfl
theorem Pc{d:List Bool}(hb:h.get b=sC (d.map bv)):Fz true h (.slice b 0 d.length 1) (dR Hh 1 (some d)):=by
 refine .slice b 0 d.length 1 _ _ hb (by rw [RQ]) fun i x y hx hy=>?_;rw [RQ,hy] at hx;cases hx;rw [<- RQ,getElem?_map] at hy;obtain ⟨v,hv,rfl⟩:=map_eq_some_iff.1 hy;exact .scalar _ rfl
theorem jd{n:Nat}(h1:1<=n){x:Sl Int}(hx:x.l.length<=12)(hc:n ^ x.l.length<=4096)(hb:jN n x.l=true){h:Heap}{K:Out->Heap->Bool}
  (hK:K (.ret (I6 ((mg n x.l:Nat):Int))) h=true):Sem TP 191 [I6 (n:Int),dH x] h K:=by
 have hbig:x.l.length<=cw:=by unfold cw;omega
 refine F.HQ ?_;rw [F.JP];refine aB 0 x.l.length (zero_le _) (fun i e h'=>h'=h/\e 0=I6 (n:Int)/\e 5=I6 ((mg n (x.l.take i):Nat):Int)/\e 1=dH x/\e 6=I6 (i:Int)) ⟨rfl,rfl,rfl,rfl,rfl⟩ ?_ ?_
 ·rintro i e h' _ hi ⟨rfl,e0,e5,e1,e6⟩ K' hn gl hr hp;have hv:x.l[i]?=some x.l[i]:=jQ hi;rw [F.jd.aP];simp only [e0,e1,e5,e6,aO,aU hi,aQ x hi,gh hv,(rE hb h1 hc hv).1,(rE hb h1 hc hv).2,aE hi hbig];exact hn _ _ ⟨rfl,e0,rfl,e1,rfl⟩
 ·rintro e h' ⟨rfl,e0,e5,e1,e6⟩ K' gl;rw [F.jd.aP];simp only [e1,e6,aO,aR];rw [gl,F.jd.aC];simp only [e5,kC,reduceEqDiff,reduceIte];rw [jD (dK _)];exact hK
theorem K7(s:St):dz TP s Tryz.f183.results.toList=(match au (some 3) (s.env 8) s.h,(some []:Option (List AV)) with|some v,some vs=>some (v :: vs)|_,_=>none):=by kernel_rfl
def D3(nm:cc)(k:Nat)(d:List Bool):List AV:=[.str nm,I6 (k:Int),dR Hh 1 (some d)]
theorem ez{n k:Nat}(h1:1<=n)(h2:n<=64)(hk:k<=12)(hc:n ^ k<=4096){nm:cc}{ts:Sl (Sl Int)}(hl:ts.l.length<=cw)(ht:Az n k ts.l=true){h:Heap}{K:Out->Heap->Bool}
  (hK:K (.ret (.agg (D3 nm k (bitsOf n k ts.l)))) h=true):Sem TP 183 [I6 (n:Int),.str nm,I6 (k:Int),kM ts] h K:=by
 refine Sem.data (r:=.agg (D3 nm k (bitsOf n k ts.l))) ?_ (by simp [AV.cP,AV.pure,br mG]) hK;clear hK;have WH:k<=cw:=by unfold cw;omega
 refine F.uk ?_;rw [F.vi];refine af (je h1 h2 WH fun v v1 v2=>?_);have hv:=v1 hc;subst hv;simp only [gz,CO (show n ^ k<=1000000 by omega),gO,aZ,Heap.aD];have ha:∀ b:Nat,iP [(.str []),(I6 0),.ai] [(0,1),(1,1),(2,1)] [.str nm,I6 (k:Int),.slice b 0 (n ^ k) 1]=some (.agg [.str nm,I6 (k:Int),.slice b 0 (n ^ k) 1]):=fun _=>rfl;simp only [ha,dr,aZ,Heap.aD];have g0:((Heap.alloc Heap.empty (.cells [(.str []),(I6 0),.ai])).alloc (.cells ((replicate (n ^ k) false).map bv))).get 0=sC [(.str []),(I6 0),.ai]:=by simp [Heap.aN,aZ]
 have g1:((Heap.alloc Heap.empty (.cells [(.str []),(I6 0),.ai])).alloc (.cells ((replicate (n ^ k) false).map bv))).get 1=sC ((replicate (n ^ k) false).map bv):=by simp [Heap.aN,aZ]
 have gn:((Heap.alloc Heap.empty (.cells [(.str []),(I6 0),.ai])).alloc (.cells ((replicate (n ^ k) false).map bv))).next=2:=rfl
 generalize ((Heap.alloc Heap.empty (.cells [(.str []),(I6 0),.ai])).alloc (.cells ((replicate (n ^ k) false).map bv)))=H0 at g0 g1 gn ⊢;obtain ⟨H,hs,p2,go,hn⟩:=cA (h:=H0) (zs:=[.str [],I6 0,.ai]) (cs:=[.str nm,I6 (k:Int),.slice 1 0 (n ^ k) 1]) (n:=3) rfl rfl rfl;rw [gn] at hs p2;have p0:H.get 0=sC [(.str []),(I6 0),.ai]:=by rw [go 0 (by omega)];exact g0
 have p1:H.get 1=sC ((replicate (n ^ k) false).map bv):=by rw [go 1 (by omega)];exact g1
 simp only [Nat.zero_add,reduceAdd,hs,dr]
 refine aB 0 ts.l.length (zero_le _) (fun i e h'=>∃ d,bitsOf n k ts.l=kN n (ts.l.drop i) d/\d.length=n ^ k/\h'.get 0=sC [(.str []),(I6 0),.ai]/\h'.get 1=sC (d.map bv)/\h'.get 2=sC [.str nm,I6 (k:Int),.slice 1 0 (n ^ k) 1] /\
  e 0=I6 (n:Int)/\e 3=kM ts/\e 8 = .ptr 0 0/\e 9 = .ptr 2 0/\e 10=I6 (i:Int)) ⟨_,rfl,by simp,p0,p1,p2,rfl,rfl,rfl,rfl,rfl⟩ ?_ ?_
 ·rintro i e h' _ hi ⟨d,hd,hdl,q0,q1,q2,e0,e3,e8,e9,iJ⟩ K' mS hx hr hp;obtain ⟨t,hv⟩:=dM hi;have wu:=yY ht hi;have qv:t.l.length=k:=MP wu hv
  have Qo:jN n t.l=true:=by
   unfold oW at wu;rw [hv] at wu;simp only [and_eq_true] at wu;exact wu.2.1
  have uQ:mg n t.l<n ^ k:=by have:=pW Qo;rwa [qv] at this
  rw [zR hv] at hd;have l2:=lA q2 2 rfl;rw [F.ez.aP];simp only [e0,e3,e9,iJ,aO,aU hi,aQ ts hi,eY hv,l2];refine af (jd h1 (by omega) (by rw [qv];exact hc) Qo ?_);simp only [gz,l2,dr,AV.beq_refl,Bool.and_self,if_true,nh uQ,vm q1 (show mg n t.l<d.length by omega),aE hi hl];exact mS _ _ ⟨_,hd,by simpa using hdl,by rw [Heap.aG,if_neg (by omega)];exact q0,by rw [Heap.aG,if_pos rfl],by rw [Heap.aG,if_neg (by omega)];exact q2,e0,e3,e8,e9,rfl⟩
 ·rintro e h' ⟨d,hd,hdl,q0,q1,q2,e0,e3,e8,e9,iJ⟩ K' hx;rw [F.ez.aP];simp only [e3,iJ,aO,aR];rw [hx,F.ez.aC];rw [drop_of_length_le (dK _)] at hd;simp only [kN] at hd;have l2:au (some 3) (.ptr 2 0) h'=some (.agg [.str nm,I6 (k:Int),.slice 1 0 (n ^ k) 1]):=by rw [aj q2];rfl
  have st:aS 3 (.ptr 0 0) (.agg [.str nm,I6 (k:Int),.slice 1 0 (n ^ k) 1]) h'=some (h'.set 0 (.cells [.str nm,I6 (k:Int),.slice 1 0 (n ^ k) 1])):=by
   rw [cj (n:=3) q0 rfl rfl (by simp)];rfl
  have r0:(h'.set 0 (.cells [.str nm,I6 (k:Int),.slice 1 0 (n ^ k) 1])).get 0=sC [.str nm,I6 (k:Int),.slice 1 0 (n ^ k) 1]:=by rw [Heap.aG,if_pos rfl]
  have r1:(h'.set 0 (.cells [.str nm,I6 (k:Int),.slice 1 0 (n ^ k) 1])).get 1=sC (d.map bv):=by rw [Heap.aG,if_neg (by omega)];exact q1
  generalize (h'.set 0 (.cells [.str nm,I6 (k:Int),.slice 1 0 (n ^ k) 1]))=H2 at st r0 r1;have l3:au (some 3) (.ptr 0 0) H2=some (.agg [.str nm,I6 (k:Int),.slice 1 0 (n ^ k) 1]):=by rw [aj r0];rfl
  simp only [kC,reduceEqDiff,reduceIte,e8,e9,l2,st,dr,K7,l3,oneOf];have fb:=Pc r1;rw [hdl,<- hd] at fb;have:=j8.cons (.scalar (.str nm) rfl) (j8.cons (.scalar (I6 (k:Int)) rfl) (j8.cons fb j8.nil));exact Od (.agg _ _ this.len this.rel)
structure jR where
 name:cc
 k:Nat
 bits:List Bool
def kT(t:jR):List AV:=D3 t.name t.k t.bits
def nR(n:Nat)(r:Rel):jR:=⟨r.name,r.arity.toNat,bitsOf n r.arity.toNat r.aM.l⟩
def wA(s:ct):List jR:=s.aA.l.map (nR s.size.toNat)
theorem vt{s:ct}(hv:cY s=true){r:Rel}(hr:s.aA.l[i]?=some r):qu s.size.toNat r=true:=by
 simp only [cY,and_eq_true] at hv;have:=yY hv.2.2.2 (lR.1 hr).1;rw [tK,hr] at this;simp only [and_eq_true] at this;exact this.1
theorem iL{s:ct}(hv:cY s=true):∃ n:Nat,s.size=(n:Int)/\1<=n/\n<=64/\s.aA.l.length<=8:=by
 simp only [cY,and_eq_true,decide_eq_true_eq] at hv;exact ⟨s.size.toNat,by omega,by omega,by omega,hv.2.2.1⟩
theorem wB{r:Rel}(h:qu n r=true):∃ k:Nat,r.arity=(k:Int)/\k<=12/\n ^ k<=4096/\Az n k r.aM.l=true:=by
 simp only [qu,and_eq_true,decide_eq_true_eq] at h;exact ⟨r.arity.toNat,by omega,by omega,h.2.2.2.1,h.2.2.2.2⟩
theorem qR{s:ct}(hv:cY s=true):(s.aA.l.map Rel.name).Nodup:=by
 simp only [cY,and_eq_true] at hv;unfold List.Nodup;rw [pairwise_iff_getElem];intro i j hi hj hij e;rw [length_map] at hi hj;have:=yY hv.2.2.2 hj;rw [tK,jQ hj] at this;simp only [and_eq_true,not_eq_true'] at this;rw [getElem_map,getElem_map] at e;have h2:=XB (p:=fun q:Rel=>q.name==s.aA.l[j].name) (jQ hi) hij (by simpa using e);rw [h2] at this;cases this.2
theorem Fb:∀ {l:List Rel},(l.map Rel.name).Nodup->∀ r ∈ l,l.find? (dN r.name)=some r
 |[],_,r,h=>by cases h
 |q :: l,hn,r,h=>by
  rw [map_cons,nodup_cons] at hn;rw [find?_cons];rcases mem_cons.1 h with rfl|h
  ·have:dN r.name r=true:=by simp [dN]
   rw [this]
  ·have:dN r.name q=false:=by
    simp only [dN,beq_eq_false_iff_ne];exact fun e=>hn.1 (e▸List.mem_map_of_mem h)
   rw [this];exact Fb hn.2 r h
theorem K8:∀ {l:List Rel},(l.map Rel.name).Nodup->∀ (nm:cc) (k:Int),l.find? (fe nm k)=match l.find? (dN nm) with
  |some r=>if r.arity=k then some r else none
  |none=>none
 |[],_,nm,k=>rfl
 |q :: l,hn,nm,k=>by
  rw [map_cons,nodup_cons] at hn;rw [find?_cons,find?_cons]
  cases hq:dN nm q with
  |true=>
   have rV:q.name==nm:=hq;simp only;by_cases ha:q.arity=k
   ·have:fe nm k q=true:=(by rw [fe,rV,fh ha];rfl);rw [this,if_pos ha]
   ·have:fe nm k q=false:=(by rw [fe,eR ha,Bool.and_false]);rw [this,if_neg ha];simp only;rw [find?_eq_none];intro r hr hs;simp only [fe,and_eq_true,beq_iff_eq] at hs rV;exact hn.1 (by rw [rV,<- hs.1];exact List.mem_map_of_mem hr)
  |false=>
   have rV:(q.name==nm)=false:=hq;have:fe nm k q=false:=by rw [fe,rV,Bool.false_and]
   rw [this];exact K8 hn.2 nm k
theorem Pd{s:ct}(hv:cY s=true)(y:cc×Int):Gb s y=(s.aA.l.find? (fe y.1 y.2)).isSome:=by
 rw [K8 (qR hv),Gb]
 cases s.aA.l.find? (dN y.1) with
 |none=>rfl
 |some r=>
  simp only;by_cases h:r.arity=y.2
  ·rw [if_pos h,fh h];rfl
  ·rw [if_neg h,eR h];rfl
theorem aaN(l:List Int):aW (l.map iv)=true:=by
 induction l with
 |nil=>rfl
 |cons a l ih=>simp only [map_cons,aW,ih,Bool.and_true];rfl
theorem vu{src:AV}{l:List Int}(r:Row encI 1 (h.alloc (.cells [])) src l)(hl:l.length<=1000000) :
  ∃ b h',bB 1 8 (.slice h.next 0 0 1) src (h.alloc (.cells []))=some (.slice b 0 l.length 1,h')/\h'.get b=sC (l.map iv)/\aV h h'/\h.next<=b/\b<h'.next:=by
 have hm:cz=140737488355328:=rfl;have g:(h.alloc (.cells [])).get h.next=sC []:=ak _ _
 have rc:=r.cells;rw [<- wh] at rc;by_cases hz:l.length=0
 ·have:l = []:=eq_nil_of_length_eq_zero hz;subst this;refine ⟨h.next,h.alloc (.cells []),?_,g,aV.alloc _ _,dK _,lt_succ_self _⟩;simp only [length_nil] at rc;simp [bB,r.len,rc]
 ·refine ⟨h.next+1,((h.alloc (.cells [])).set h.next .dead).alloc (.cells (l.map iv)),?_,?_,?_,by omega,?_⟩
  ·simp only [bB,r.len,rc,if_true,if_neg hz,g];rw [if_pos (by simp [aaN];omega)];simp [Heap.aD]
  ·have:=ak ((h.alloc (.cells [])).set h.next .dead) (.cells (l.map iv))
   rwa [Heap.aT,Heap.aD] at this
  ·exact ((aV.alloc h (.cells [])).set (dK _) _).trans (aV.alloc _ _)
  ·rw [Heap.aD,Heap.aT,Heap.aD];omega
def IL(n:Nat)(t:List Int):List (List Int):=(List.range n).map fun (x:Nat)=>t++[(x:Int)]
def stepT(n:Nat)(out:List (List Int)):List (List Int):=out.flatMap (IL n)
def nS(n:Nat):Nat->List (List Int)
 |0=>[[]]
 |k+1=>stepT n (nS n k)
theorem D5(n:Nat)(l:List (List Int)):(stepT n l).length=l.length*n:=by
 induction l with
 |nil=>simp [stepT]
 |cons t l ih=>
  rw [stepT,flatMap_cons,length_append,<- stepT,ih,length_cons,succ_mul];simp [IL];omega
theorem qS(n:Nat):∀ k,(nS n k).length=n ^ k
 |0=>rfl
 |k+1=>by rw [nS,D5,qS n k,Nat.pow_succ]
theorem RR{out:List (List Int)}(ht:out[j]?=some t):stepT n (out.take (j+1))=stepT n (out.take j)++IL n t:=by
 rw [take_add_one,ht,stepT,flatMap_append];simp [stepT]
theorem y7(n:Nat)(t:List Int):(IL n t).length=n:=by simp [IL]
theorem U3{x:Nat}(hx:x<n):(IL n t).take (x+1)=(IL n t).take x++[t++[(x:Int)]]:=by
 rw [take_add_one];congr 1;simp [IL,getElem?_range hx]
theorem D6{n:Nat}:∀ {out:List (List Int)} {r x:Nat} {t:List Int},out[r]?=some t->x<n->(stepT n out)[r*n+x]?=some (t++[(x:Int)])
 |[],r,x,t,h,_=>by simp at h
 |u :: out,0,x,t,h,hx=>by
  simp at h;subst h;rw [stepT,flatMap_cons,Nat.zero_mul,Nat.zero_add,getElem?_append_left (by rw [y7];exact hx)];simp [IL,getElem?_range hx]
 |u :: out,r+1,x,t,h,hx=>by
  rw [stepT,flatMap_cons,getElem?_append_right (by rw [y7,succ_mul];omega),y7];have:(r+1)*n+x-n=r*n+x:=by rw [succ_mul];omega
  rw [this];exact D6 (out:=out) (by simpa using h) hx
theorem aaO{x:Nat}(ht:jN n t=true)(hx:x<n):jN n (t++[(x:Int)])=true:=by
 unfold jN at ht ⊢;rw [all_append,ht];simp;omega
theorem D8{n:Nat}(hn:1<=n):∀ (k r:Nat),r<n ^ k->∃ t,(nS n k)[r]?=some t/\t.length=k/\jN n t=true/\mg n t=r
 |0,r,h=>by
  obtain rfl:r=0:=by simp at h;omega
  exact ⟨[],rfl,rfl,rfl,rfl⟩
 |k+1,r,h=>by
  have hr:r/n<n ^ k:=Nat.div_lt_of_lt_mul (by rw [Nat.mul_comm,<- Nat.pow_succ];exact h);have hx:r%n<n:=mod_lt _ hn;obtain ⟨t,h1,h2,h3,h4⟩:=D8 hn k (r/n) hr;refine ⟨t++[((r%n:Nat):Int)],?_,by simp [h2],aaO h3 hx,?_⟩
  ·have:=D6 (n:=n) h1 hx;rw [nS]
   rwa [div_add_mod' r n] at this
  ·unfold mg at h4 ⊢;rw [yQ,h4];simp only [xK,Int.toNat_natCast];exact div_add_mod' r n
theorem Pe{n:Nat}:∀ (a b:List Int) (r s:Nat),a.length=b.length->jN n a=true->jN n b=true->xK n a r=xK n b s->a=b/\r=s
 |[],[],r,s,_,_,_,h=>⟨rfl,h⟩
 |x :: a,y :: b,r,s,hl,ha,hb,h=>by
  simp only [jN,all_cons,and_eq_true,not_eq_true',decide_eq_false_iff_not] at ha hb;obtain ⟨e1,e2⟩:=Pe a b _ _ (by simpa using hl) (by unfold jN;simpa using ha.2) (by unfold jN;simpa using hb.2) h;subst e1;have hn:0<n:=by omega
  have hx:x.toNat<n:=by omega
  have hy:y.toNat<n:=by omega
  have h1:r=s:=by
   have q1:(r*n+x.toNat)/n=r:=by rw [Nat.mul_comm,mul_add_div hn,div_eq_of_lt hx];rfl
   have q2:(s*n+y.toNat)/n=s:=by rw [Nat.mul_comm,mul_add_div hn,div_eq_of_lt hy];rfl
   rw [<- q1,<- q2,e2]
  subst h1;exact ⟨by congr 1;omega,rfl⟩
theorem Tz{a b:List Int}(hl:a.length=b.length)(ha:jN n a=true)(hb:jN n b=true)(h:mg n a=mg n b):a=b:=(Pe a b 0 0 hl ha hb h).1
theorem A5{k:Nat}(hn:1<=n)(hk:k<=12)(hc:n ^ k<=65536)(hK:∀ x:Sl (Sl Int),x.l.map Sl.l=nS n k->K (.ret (kM x)) h=true):Sem TP 32 [I6 (n:Int),I6 (k:Int)] h K:=by
 have hm:cz=140737488355328:=rfl
 have main:Sem TP 32 [I6 (n:Int),I6 (k:Int)] Heap.empty (fun o h'=>yes (∃ v,∃ x:Sl (Sl Int),o = .ret v/\x.l.map Sl.l=nS n k/\Fz true h' v (kM x))):=by
  refine F.DO ?_;rw [F.FO];have r0:eN [] [] []=some []:=rfl;have r1:∀ p:PB,eN [.ai] [(0,1)] [.slice p.1 0 p.2.length 1]=some (BE p):=fun _=>rfl;have r2:∀ x:Int,eN [I6 0] [(0,1)] [I6 x]=some [I6 x]:=fun _=>rfl;have r1':eN [.ai] [(0,1)] [.slice 0 0 0 1]=some (BE (0,[])):=rfl;simp only [r0,dr,aZ,r1'];have g0:(Heap.alloc (Heap.alloc Heap.empty (.cells [])) (.cells (BE (0,[])))).get 0=sC []:=by simp [Heap.aN,aZ]
  have g1:(Heap.alloc (Heap.alloc Heap.empty (.cells [])) (.cells (BE (0,[])))).get 1=sC (BE (0,[])):=by simp [Heap.aN,aZ]
  have gn:(Heap.alloc (Heap.alloc Heap.empty (.cells [])) (.cells (BE (0,[])))).next=2:=rfl
  have ge:(Heap.alloc Heap.empty (.cells [])).next=1:=rfl
  rw [ge];generalize (Heap.alloc (Heap.alloc Heap.empty (.cells [])) (.cells (BE (0,[]))))=H at g0 g1 gn ⊢
  have aiZ:uF 0 H (.slice 1 0 1 1) [(0,[])]:=⟨.row 1 [(0,[])] (zero_le _) (by omega) (by simpa using g1),fun p hp=>by
   rw [mem_singleton] at hp;subst hp;exact ⟨dK _,by show 0<H.next;omega,by simp [bR],g0⟩⟩
  refine aB 0 k (zero_le _) (fun i e h'=>∃ a ps,uF 0 h' a ps/\ps.map (·.2)=nS n i/\e 0=I6 (n:Int)/\e 1=I6 (k:Int)/\e 5=a/\e 6=I6 (i:Int)) ⟨_,_,aiZ,rfl,rfl,rfl,rfl,rfl⟩ ?_ ?_
  ·rintro i e h' _ hi ⟨a,ps,MQ,uN,e0,e1,e5,e6⟩ K' hn0 hx0 hr0 Da;have sF:ps.length=n ^ i:=by have:=congrArg List.length uN;rwa [length_map,qS] at this
   have hin:n ^ i*n<=65536:=by rw [<- Nat.pow_succ];exact Nat.le_trans (MM hn hi) hc
   have amE:ps.length<=cw:=by unfold cw;have:=Nat.le_mul_of_pos_right (n ^ i) hn;omega
   rw [F.b8.aP];simp only [e1,e6,aO,aU hi]
   refine aB 0 ps.length (zero_le _) (fun j e h2=>aV h' h2/\∃ c qs,uF h'.next h2 c qs/\qs.map (·.2)=stepT n ((ps.map (·.2)).take j)/\e 0=I6 (n:Int)/\e 1=I6 (k:Int)/\e 5=a/\e 6=I6 (i:Int)/\e 7=c/\e 8=I6 (j:Int))
    ⟨aV.refl _,_,_,.nil _ _,rfl,e0,e1,e5,e6,rfl,rfl⟩ ?_ ?_
   ·rintro j e h2 _ hj ⟨fK,c,qs,aaP,hqs,e0,e1,e5,e6,e7,e8⟩ K2 qj ai0 r7 Ay;obtain ⟨p,RG⟩:=dM hj;have amF:(ps.map (·.2))[j]?=some p.2:=by rw [getElem?_map,RG];rfl
    have hql:qs.length=j*n:=by
     have:=congrArg List.length hqs;rw [length_map,D5,length_take,length_map,Nat.min_eq_left (by omega)] at this;exact this
    have hjn:j*n+n<=65536:=by
     have:(j+1)*n<=ps.length*n:=mul_le_mul_right n hj;rw [sF,succ_mul] at this;omega
    rw [F.b8.cU];simp only [e5,e8,MQ.own.len,aO,aU hj]
    refine aB 0 n (zero_le _) (fun x e h3=>aV h' h3/\∃ c qs,uF h'.next h3 c qs/\qs.map (·.2)=stepT n ((ps.map (·.2)).take j)++(IL n p.2).take x/\e 0=I6 (n:Int)/\e 1=I6 (k:Int)/\e 5=a/\e 6=I6 (i:Int)/\e 7=c/\e 8=I6 (j:Int)/\e 9=I6 (x:Int))
     ⟨fK,c,qs,aaP,by rw [take_zero,append_nil];exact hqs,e0,e1,e5,e6,e7,e8,rfl⟩ ?_ ?_
    ·rintro x e h3 _ hx ⟨BY,c,qs,aaQ,aaR,e0,e1,e5,e6,e7,e8,e9⟩ K3 RP aaS YA hp3
     have asl:qs.length=j*n+x:=by
      have:=congrArg List.length aaR;rw [length_map,length_append,D5,length_take,length_map,Nat.min_eq_left (by omega),length_take,y7,Nat.min_eq_left (by omega)] at this;exact this
     obtain ⟨b,b1,b2,b3⟩:=MQ.at_ RG;obtain ⟨p1,p2,p3,p4⟩:=MQ.cell p (ij RG);have xa:aV h' (h3.alloc (.cells [])):=BY.trans (aV.alloc _ _)
     have pE:Row encI 1 (h3.alloc (.cells [])) (.slice p.1 0 p.2.length 1) p.2:=by
      have hg:(h3.alloc (.cells [])).get p.1=sC (p.2.map iv):=(by rw [xa.get _ p2];exact p4);refine ⟨rfl,?_⟩;simp only [gW,hg,if_true];rw [if_pos (by simp),<- wh];simp only [drop_zero,Nat.mul_one];rw [jD (by simp)]
     have VV:p.2.length<=1000000:=by
      have:p.2 ∈ nS n i:=(by rw [<- uN];exact List.mem_map_of_mem (ij RG));obtain ⟨r,hr⟩:=getElem?_of_mem this;have hlt:r<n ^ i:=by have:=(lR.1 hr).1;rwa [qS] at this
      obtain ⟨t,q1,q2,_⟩:=D8 hn i r hlt;rw [hr] at q1;cases q1;omega
     obtain ⟨b4,h4,a4,g4,x4,l4,m4⟩:=vu pE VV;obtain ⟨b5,h5,a5,g5,f5,l5,m5⟩:=Xb (h:=h4) g4 m4 VV (x:Int);have x5:aV h3 h5:=⟨by have:=x4.next;omega,fun d hd=>by rw [f5 d (by have:=x4.next;omega) (by omega),x4.get d hd]⟩
     have aed:=aaQ.ext x5;have hx5:=BY.trans x5;obtain ⟨a6,h6,e6',aee,n6,_,x6,_⟩:=aed.push (by have:=hx5.next;omega) (by rw [hm];omega) (b5,p.2++[(x:Int)]) (by have:=x4.next;have:=BY.next;show h'.next<=b5;omega) m5 (fun hb=>by have:=aaQ.own.lt hb;simp only at this;have:=x4.next;omega) g5;rw [F.b8.lD];simp only [e0,e5,e7,e8,e9,aO,aU hx,r0,b1,b3 _ xa,a4,r2,a5,r1 (b5,p.2++[(x:Int)]),e6',aE hx (show n<=cw by unfold cw;omega)];refine RP _ _ ⟨x6 _ hx5 (dK _),a6,_,aee,?_,e0,e1,e5,e6,rfl,e8,rfl⟩;rw [map_append,aaR,U3 hx,append_assoc];rfl
    ·rintro e h3 ⟨BY,c,qs,aaQ,aaR,e0,e1,e5,e6,e7,e8,e9⟩ K3 aaS;rw [F.b8.lD];simp only [e0,e9,aO,aR];rw [aaS,F.b8.jo];simp only [aO,reduceEqDiff,reduceIte,e8,aE hj amE];refine qj _ _ ⟨BY,c,qs,aaQ,?_,e0,e1,e5,e6,e7,rfl⟩;rw [aaR,RR amF,jD (l:=IL n p.2) (by rw [y7];exact dK _)]
   ·rintro e h2 ⟨fK,c,qs,aaP,hqs,e0,e1,e5,e6,e7,e8⟩ K2 ai0;rw [F.b8.cU];simp only [e5,e8,MQ.own.len,aO,aR];rw [ai0,F.b8.cm];simp only [aO,reduceEqDiff,reduceIte,e6,e7,aE hi (show k<=cw by unfold cw;omega)];refine hn0 _ _ ⟨c,qs,⟨aaP.own.CL (zero_le _),fun p hp=>?_⟩,?_,e0,e1,rfl,rfl⟩
    ·obtain ⟨q1,q2,q3,q4⟩:=aaP.cell p hp;exact ⟨zero_le _,q2,q3,q4⟩
    ·rw [hqs,jD (by simp),uN];rfl
  ·rintro e h' ⟨a,ps,MQ,uN,e0,e1,e5,e6⟩ K' hx0;rw [F.b8.aP];simp only [e1,e6,aO,aR];rw [hx0,F.b8.aC];simp only [kC,reduceEqDiff,reduceIte,e5];obtain ⟨x,jM,fK⟩:=MQ.Ad (jm:=true);exact bO.2 ⟨a,x,rfl,jM.trans uN,fK⟩
 refine main.frozen (by simp [AV.cP,AV.pure]) fun o h' ho=>?_;obtain ⟨v,x,rfl,hx,hf⟩:=bO.1 ho;exact ⟨v,_,rfl,hf,hK x hx⟩
theorem b8{k:Nat}(hn:1<=n)(hk:k<=12)(hc:n ^ k<=4096)(hK:∀ x:Sl (Sl Int),x.l.map Sl.l=nS n k->K (.ret (kM x)) h=true):Sem TP 32 [I6 (n:Int),I6 (k:Int)] h K:=A5 hn hk (Nat.le_trans hc (by omega)) hK
theorem sO:eN [] [] []=some []:=rfl
theorem ai1(p:PB):eN [.ai] [(0,1)] [.slice p.1 0 p.2.length 1]=some (BE p):=rfl
theorem iq{x:Sl (Sl Int)}(hx:x.l.length<=1000000)(ht:∀ t ∈ x.l,t.l.length<=1000000){h:Heap}{K:Out->Heap->Bool}(hK:∀ y:Sl (Sl Int),y.l.map Sl.l=x.l.map Sl.l->K (.ret (kM y)) h=true):Sem TP 72 [kM x] h K:=by
 have hm:cz=140737488355328:=rfl;have hbig:x.l.length<=cw:=by unfold cw;omega
 have main:Sem TP 72 [kM x] Heap.empty (fun o h'=>yes (∃ v,∃ y:Sl (Sl Int),o = .ret v/\y.l.map Sl.l=x.l.map Sl.l/\Fz true h' v (kM y))):=by
  refine F.DP ?_;rw [F.FP];refine aB 0 x.l.length (zero_le _) (fun i e h'=>∃ a ps,uF 0 h' a ps/\ps.map (·.2)=(x.l.take i).map Sl.l/\e 0=kM x/\e 3=a/\e 4=I6 (i:Int)) ⟨_,_,.nil _ _,rfl,rfl,rfl,rfl⟩ ?_ ?_
  ·rintro i e h' _ hi ⟨a,ps,MQ,uN,e0,e3,e4⟩ K' hn gl hr hp;obtain ⟨t,hv⟩:=dM hi;have qv:=ht t (ij hv);have sF:ps.length=i:=by have:=congrArg List.length uN;rw [length_map,length_map,length_take,Nat.min_eq_left (by omega)] at this;exact this
   obtain ⟨b,h5,a5,g5,x5,l5,m5⟩:=vu (wk pL t (h'.alloc (.cells []))) qv;have aed:=MQ.ext x5;obtain ⟨a6,h6,e6,aee,_⟩:=aed.push (zero_le _) (by rw [hm];omega) (b,t.l) (zero_le _) m5 (fun hb=>by have:=MQ.own.lt hb;simp only at this;omega) g5;rw [F.iq.aP];simp only [e0,e3,e4,aO,aU hi,sO,aQ x hi,eY hv,a5,ai1 (b,t.l),e6,aE hi hbig];exact hn _ _ ⟨_,_,aee,by rw [map_append,uN,take_add_one,hv,map_append];rfl,e0,rfl,rfl⟩
  ·rintro e h' ⟨a,ps,MQ,uN,e0,e3,e4⟩ K' gl;rw [F.iq.aP];simp only [e0,e4,aO,aR];rw [gl,F.iq.aC];simp only [kC,reduceEqDiff,reduceIte,e3];obtain ⟨y,VX,XC⟩:=MQ.Ad (jm:=true);exact bO.2 ⟨a,y,rfl,by rw [VX,uN,jD (dK _)],XC⟩
 refine main.frozen (by simp [AV.cP,br mG]) fun o h' ho=>?_;obtain ⟨v,y,rfl,hy,hf⟩:=bO.1 ho;exact ⟨v,_,rfl,hf,hK y hy⟩
structure ct.small (s:ct):Prop where
 aA:s.aA.l.length<=1000
 CV:∀ r ∈ s.aA.l,r.aM.l.length<=10000
 YL:∀ r ∈ s.aA.l,∀ t ∈ r.aM.l,t.l.length<=1000
theorem ct.small.U4{s:ct}(hs:s.small):s.aA.l.length<=cw:=by have:=hs.aA;unfold cw;omega
theorem aaT(nm:cc)(k:Int)(y:Sl (Sl Int)):iP [.str [],I6 0,.ai] [(0,1),(1,1),(2,1)] [.str nm,I6 k,kM y]=some (.agg (aY ⟨nm,k,y⟩)):=by cases y<;>rfl
theorem TA(r:Rel):eN [.str [],I6 0,.ai] [(0,3)] [.agg (aY r)]=some (aY r):=by
 obtain ⟨nm,k,y⟩:=r;cases y<;>rfl
theorem XD(s:St):dz TP s Tryz.f25.results.toList=(match au (some 2) (s.env 2) s.h,(some []:Option (List AV)) with|some v,some vs=>some (v :: vs)|_,_=>none):=by kernel_rfl
theorem jf{s:ct}(hs:s.small){h:Heap}{K:Out->Heap->Bool}(hK:∀ a h' rs,aV h h'->Own aY 3 h.next h' a rs->rs.map bp=s.aA.l.map bp->K (.ret (.agg [I6 s.size,a])) h'=true):Sem TP 25 [.agg (ah s)] h K:=by
 have hm:cz=140737488355328:=rfl;refine F.HX ?_;rw [F.JV];simp only [cD (bU s),dr,Heap.aD];have g0:(Heap.alloc (Heap.alloc h (.cells (ah s))) (.cells [I6 0,.ai])).get h.next=sC (ah s):=by rw [Heap.aN,Heap.aD,if_neg (by omega)];exact ak _ _
 have g1:(Heap.alloc (Heap.alloc h (.cells (ah s))) (.cells [I6 0,.ai])).get (h.next+1)=sC [I6 0,.ai]:=ak _ _;have gn:(Heap.alloc (Heap.alloc h (.cells (ah s))) (.cells [I6 0,.ai])).next=h.next+2:=rfl
 have gx:aV h (Heap.alloc (Heap.alloc h (.cells (ah s))) (.cells [I6 0,.ai])):=(aV.alloc _ _).trans (aV.alloc _ _);generalize (Heap.alloc (Heap.alloc h (.cells (ah s))) (.cells [I6 0,.ai]))=H1 at g0 g1 gn gx ⊢;have lz:=lA g0 0 rfl;have ha:iP [I6 0,.ai] [(0,1)] [I6 s.size]=some (.agg [I6 s.size,.ai]):=rfl;obtain ⟨H2,se,p2,po,pn⟩:=cA (h:=H1) (zs:=[I6 0,.ai]) (cs:=[I6 s.size,.ai]) (n:=2) rfl rfl rfl;rw [gn] at p2 po pn se;have p0:H2.get h.next=sC (ah s):=by rw [po _ (by omega)];exact g0
 have p1:H2.get (h.next+1)=sC [I6 0,.ai]:=by rw [po _ (by omega)];exact g1
 have px:aV h H2:=⟨by omega,fun b hb=>by rw [po _ (by omega)];exact gx.get b hb⟩
 simp only [aO,lz,ha,se]
 refine aB 0 s.aA.l.length (zero_le _) (fun i e h'=>∃ a rs,h'.get h.next=sC (ah s)/\h'.get (h.next+1)=sC [I6 0,.ai]/\h'.get (h.next+2)=sC [I6 s.size,a]/\Own aY 3 (h.next+3) h' a rs/\rs.map bp=(s.aA.l.take i).map bp/\aV h h'/\h.next+3<=h'.next /\
  e 1 = .ptr h.next 0/\e 2 = .ptr (h.next+1) 0/\e 3 = .ptr (h.next+2) 0/\e 4=I6 (i:Int)) ⟨_,[],p0,p1,p2,.nil,rfl,px,by omega,rfl,rfl,rfl,rfl⟩ ?_ ?_
 ·rintro i e h' _ hi ⟨a,rs,q0,q1,q2,o,tO,qx,qn,e1,e2,e3,e4⟩ K' hn gl hr hp;obtain ⟨r,hv⟩:=dM hi;have kW:=ij hv;have lr:=lA q0 1 rfl;have lo:=lA q2 1 rfl;have hrl:rs.length=i:=by have:=congrArg List.length tO;rw [length_map,length_map,length_take,Nat.min_eq_left (by omega)] at this;exact this
  rw [F.jf.aP];simp only [e1,e3,e4,aO,lr,lo,aU hi,aQ s.aA hi,vr hv,zT hv,kF hv];refine af (iq (by have:=hs.CV r kW;omega) (fun t ht=>by have:=hs.YL r kW t ht;omega) fun y hy=>?_);obtain ⟨a5,h5,p5,o5,f5,n5,x5,b5⟩:=o.push dY gJ (by omega) (bytes:=48) (by have:=hs.aA;rw [hm];omega) ⟨r.name,r.arity,y⟩;have hne:bR a≠some (h.next+2):=fun hb=>by have:=o.ge hb;omega
  have s2:h5.get (h.next+2)=sC [I6 s.size,a]:=by rw [f5 _ (by omega) hne];exact q2
  have c5:=o5.ki
  have st:aS 1 (.ptr (h.next+2) 1) a5 h5=some (h5.set (h.next+2) (.cells [I6 s.size,a5])):=by
   rw [cj (n:=1) s2 c5.2.1 c5.1 (by simp),c5.2.2];rfl
  simp only [gz,lr,lo,dr,AV.beq_refl,Bool.and_self,if_true,aaT,TA,p5,gO,st,aE hi hs.U4];refine hn _ _ ⟨a5,rs++[⟨r.name,r.arity,y⟩],?_,?_,?_,o5.mK (by omega) _,?_,?_,by rw [Heap.aT];omega,e1,e2,e3,rfl⟩
  ·rw [Heap.aG,if_neg (by omega),f5 _ (by omega) (fun hb=>by have:=o.ge hb;omega)];exact q0
  ·rw [Heap.aG,if_neg (by omega),f5 _ (by omega) (fun hb=>by have:=o.ge hb;omega)];exact q1
  ·rw [Heap.aG,if_pos rfl]
  ·rw [map_append,tO,take_add_one,hv,map_append];simp [bp,hy]
  ·exact (x5 h qx (by omega)).set (by omega) _
 ·rintro e h' ⟨a,rs,q0,q1,q2,o,tO,qx,qn,e1,e2,e3,e4⟩ K' gl;have lr:=lA q0 1 rfl;have lo:au (some 2) (.ptr (h.next+2) 0) h'=some (.agg [I6 s.size,a]):=by rw [aj q2];rfl
  have c:=o.ki
  have tX:aW [I6 s.size,a]=true:=by
   have:=c.1;rw [c.2.2] at this;simp only [aW,Bool.and_true] at this ⊢;rw [this];rfl
  have st:aS 2 (.ptr (h.next+1) 0) (.agg [I6 s.size,a]) h'=some (h'.set (h.next+1) (.cells [I6 s.size,a])):=by
   rw [cj (n:=2) (v:=.agg [I6 s.size,a]) q1 rfl tX (by simp)];rfl
  have RT:au (some 2) (.ptr (h.next+1) 0) (h'.set (h.next+1) (.cells [I6 s.size,a]))=some (.agg [I6 s.size,a]):=by rw [aj (cs:=[I6 s.size,a]) (by rw [Heap.aG,if_pos rfl])];rfl
  rw [F.jf.aP];simp only [e1,e4,aO,lr,aR];rw [gl,F.jf.aC];simp only [kC,reduceEqDiff,reduceIte,e2,e3,lo,st,dr,XD,RT,oneOf];rw [jD (dK _)] at tO;exact hK a _ rs (qx.set (by omega) _) ((o.mK (by omega) _).CL (by omega)) tO
theorem Pf{n:Nat}:∀ {a b:List Int} (r:Nat),a.length=b.length->jN n a=true->jN n b=true->dA a b=true->xK n a r<xK n b r
 |[],_,r,_,_,_,h=>by simp [dA] at h
 |_ :: _,[],r,_,_,_,h=>by simp [dA] at h
 |x :: a,y :: b,r,hl,ha,hb,h=>by
  have YM:=ha;have gN:=hb;simp only [jN,all_cons,and_eq_true,not_eq_true',decide_eq_false_iff_not] at ha hb;have ia:jN n a=true:=by unfold jN;simpa using ha.2
  have ib:jN n b=true:=by unfold jN;simpa using hb.2
  have G0:a.length=b.length:=by simpa using hl
  rw [dA] at h;simp only [xK];by_cases e:x=y
  ·subst e;rw [if_pos rfl] at h;exact Pf _ G0 ia ib h
  ·rw [if_neg e] at h;have Tn:=of_decide_eq_true h
   have lo:∀ (l:List Int) (r:Nat),r*n ^ l.length<=xK n l r:=by
    intro l
    induction l with
    |nil=>intro r;simp [xK]
    |cons z l ih=>
     intro r;rw [xK];refine Nat.le_trans ?_ (ih _);rw [length_cons,Nat.pow_succ,Nat.mul_comm (n ^ l.length) n,<- Nat.mul_assoc];exact mul_le_mul_right _ (le_add_right _ _)
   have hi:∀ (l:List Int) (r:Nat),jN n l=true->xK n l r<(r+1)*n ^ l.length:=by
    intro l
    induction l with
    |nil=>intro r _;simp [xK]
    |cons z l ih=>
     intro r hz;simp only [jN,all_cons,and_eq_true,not_eq_true',decide_eq_false_iff_not] at hz;rw [xK];refine Nat.lt_of_lt_of_le (ih _ (by unfold jN;simpa using hz.2)) ?_;rw [length_cons,Nat.pow_succ,Nat.mul_comm (n ^ l.length) n,<- Nat.mul_assoc];refine mul_le_mul_right _ ?_;rw [succ_mul];omega
   have q1:=hi a (r*n+x.toNat) ia;have q2:=lo b (r*n+y.toNat)
   have q3:(r*n+x.toNat+1)*n ^ a.length<=(r*n+y.toNat)*n ^ b.length:=by
    rw [G0];exact mul_le_mul_right _ (by omega)
   omega
theorem K9{a b:List Int}(hl:a.length=b.length)(ha:jN n a=true)(hb:jN n b=true)(h:dA a b=true):mg n a<mg n b:=Pf 0 hl ha hb h
def eo(n:Nat):Nat->Nat->List Int
 |0,_=>[]
 |k+1,r=>eo n k (r/n)++[((r%n:Nat):Int)]
theorem zU{n:Nat}(hn:1<=n):∀ (k r:Nat),r<n ^ k->(nS n k)[r]?=some (eo n k r)
 |0,r,h=>by
  obtain rfl:r=0:=by simp at h;omega
  rfl
 |k+1,r,h=>by
  have hr:r/n<n ^ k:=Nat.div_lt_of_lt_mul (by rw [Nat.mul_comm,<- Nat.pow_succ];exact h);have hx:r%n<n:=mod_lt _ hn;have:=D6 (n:=n) (zU hn k (r/n) hr) hx;rw [nS,eo]
  rwa [div_add_mod' r n] at this
theorem su(hn:1<=n){k r:Nat}(h:r<n ^ k):jN n (eo n k r)=true/\mg n (eo n k r)=r:=by
 obtain ⟨t,h1,h2,h3,h4⟩:=D8 hn k r h;rw [zU hn k r h] at h1;cases h1;exact ⟨h3,h4⟩
theorem aaU{a:Nat}(hb:0<b):aF .rem (I6 (a:Int)) (I6 (b:Int))=some (I6 ((a%b:Nat):Int)):=by
 have h:¬ (b:Int)=0:=by omega
 simp only [aF,if_true,if_neg h];rw [Int.tmod_eq_emod_of_nonneg (by omega)];rfl
theorem aaV{a:Nat}(hb:0<b)(ha:a<=1000000):aF .quo (I6 (a:Int)) (I6 (b:Int))=some (I6 ((a/b:Nat):Int)):=by
 have h:¬ (b:Int)=0:=by omega
 simp only [aF,if_true,if_neg h];have e:((a:Int).tdiv (b:Int))=((a/b:Nat):Int):=by rw [Int.tdiv_eq_ediv_of_nonneg (by omega)];rfl
 have:a/b<=a:=div_le_self _ _;rw [e];generalize a/b=q at this;rw [IntWalk.i64_in _ (by omega)]
theorem jr{n k r:Nat}(n1:1<=n)(sK:n<=64)(hk:k<=12)(hc:n ^ k<=4096)(hr:r<n ^ k){h:Heap}{K:Out->Heap->Bool}(hK:∀ t:Sl Int,t.l=eo n k r->K (.ret (.tuple [dH t,I6 0])) h=true):Sem TP 63 [I6 (n:Int),I6 (k:Int),I6 (r:Int)] h K:=by
 have main:Sem TP 63 [I6 (n:Int),I6 (k:Int),I6 (r:Int)] Heap.empty (fun o h'=>yes (∃ v,∃ t:Sl Int,o = .ret (.tuple [v,I6 0])/\t.l=eo n k r/\Fz true h' v (dH t))):=by
  refine F.FR ?_;rw [F.HZ];refine af (uu n1 sK (by unfold cw;omega) ?_);rw [U0,if_neg (by omega),if_neg (by omega)];have BI:aF .sub (I6 (k:Int)) (I6 1)=some (I6 ((k:Int)-1)):=uf (by omega) (by omega);simp only [aO,beq_self_eq_true,Bool.not_true,eR (by omega:¬ (r:Int)<0),eR (by omega:¬ ((n ^ k:Nat):Int)<=(r:Int)),zO (show k<=1000000 by omega),aZ,BI]
  refine jU (fun j e h'=>∃ (q:Nat) (YN:List Int),j<=k/\eo n k r=eo n j q++YN/\j+YN.length=k/\q<=4096/\h'.get 0=sC ((replicate j (0:Int)++YN).map iv)/\e 0=I6 (n:Int)/\e 2=I6 (q:Int)/\e 10 = .slice 0 0 k 1/\e 11=I6 ((j:Int)-1)) k
   ⟨r,[],dK _,by simp,rfl,by omega,by rw [append_nil];exact ak _ _,rfl,rfl,rfl,rfl⟩ ?_
  rintro j e h' ⟨q,YN,hj,ht,hl,hq,g0,e0,e2,iJ,l9⟩;rw [F.jr.aP]
  cases j with
  |zero=>
   simp only [l9,ug,dr,cu,eR (by omega:¬ (0:Int)<=((0:Nat):Int)-1),aK,lZ];rw [F.jr.aC];simp only [kC,reduceEqDiff,reduceIte,iJ];rw [replicate_zero,nil_append] at g0;refine bO.2 ⟨_,some YN,rfl,by rw [ht,eo];rfl,?_⟩;have:=OF g0
   rwa [show YN.length=k by omega] at this
  |succ j=>
   have amG:((j+1:Nat):Int)-1=(j:Int):=by omega
   have hjk:j<k:=by omega
   have mu:(replicate (j+1) (0:Int)++YN).set j ((q%n:Nat):Int)=replicate j 0++(((q%n:Nat):Int) :: YN):=by
    rw [replicate_succ',append_assoc,set_append_right _ _ (by simp)];simp
   have BB:aF .sub (I6 (j:Int)) (I6 1)=some (I6 ((j:Int)-1)):=uf (by omega) (by omega);rw [amG] at l9;simp only [e0,e2,iJ,l9,ug,dr,cu,fh (by omega:(0:Int)<=(j:Int)),aL,aaU n1,aaV n1 (show q<=1000000 by omega),nh hjk,tE g0 (show j<(replicate (j+1) (0:Int)++YN).length by simp;omega),BB];refine bO.2 ⟨j,by omega,rfl,rfl,⟨q/n,(((q%n:Nat):Int) :: YN),by omega,?_,by simp;omega,by have:=div_le_self q n;omega,by rw [Heap.aG,if_pos rfl,mu],e0,rfl,iJ,rfl⟩⟩;rw [ht,eo,append_assoc];rfl
 refine main.frozen (by simp [AV.cP,AV.pure]) fun o h' ho=>?_;obtain ⟨v,t,rfl,ht,hf⟩:=bO.1 ho;have:=j8.cons hf (j8.cons (.scalar (I6 0) rfl) j8.nil);exact ⟨_,_,rfl,.tuple _ _ this.len this.rel,hK t ht⟩
theorem fZ{x:Sl (Sl Int)}{t:Sl Int}(hx:x.l.length<=cw)(ht:∀ u ∈ x.l,u.l.length<=cw){h:Heap}{K:Out->Heap->Bool}(hK:K (.ret (.bool ((x.l.map Sl.l).any fun u=>u==t.l))) h=true):Sem TP 34 [kM x,dH t] h K:=by
 refine F.FQ ?_;rw [F.HY];refine aB 0 x.l.length (zero_le _) (fun i e h'=>h'=h/\e 0=kM x/\e 1=dH t/\e 5=I6 (i:Int)/\(((x.l.map Sl.l).take i).any fun u=>u==t.l)=false) ⟨rfl,rfl,rfl,rfl,rfl⟩ ?_ ?_
 ·rintro i e h' _ hi ⟨rfl,e0,e1,e5,hq⟩ K' hn gl hr hp;obtain ⟨u,hv⟩:=dM hi;have Rp:(x.l.map Sl.l)[i]?=some u.l:=by rw [getElem?_map,hv];rfl
  rw [F.fZ.aP];simp only [e0,e1,e5,aO,aU hi,aQ x hi,eY hv];refine af (ew (ht u (ij hv)) ?_);simp only [aO]
  cases h1:u.l==t.l with
  |true=>
   simp only [aL];rw [hr,F.fZ.bg];simp only [kC,reduceEqDiff,reduceIte];rw [List.any_eq_true.2 ⟨u.l,ij Rp,h1⟩] at hK;exact hK
  |false=>
   simp only [aK,aE hi hx,dr];exact hn _ _ ⟨rfl,e0,e1,rfl,yL Rp hq h1⟩
 ·rintro e h' ⟨rfl,e0,e1,e5,hq⟩ K' gl;rw [F.fZ.aP];simp only [e0,e5,aO,aR];rw [gl,F.fZ.aC];rw [jD (by simp)] at hq;rw [hq] at hK;exact hK
theorem Pg{es:List Entry}{ck:Nat}{m:qN}(hb:h.get b=some (.map es ck))(hm:yJ es m)(k:cc)(v:AV) :
  ∃ Cc Mj,fX .string (.map b) (.str k) v h=some (h.set b (.map Cc Mj))/\yJ Cc (m.vS k v):=by
 obtain ⟨r,hr,zI⟩:=yJ.mO (k:=k) 0 hm;simp only [fX,hb,uU,uT,if_true,hr]
 cases r with
 |none=>simp at zI;exact ⟨_,_,rfl,hm.append zI v ck⟩
 |some jv=>
  obtain ⟨n,hj,_,e⟩:=zI;obtain ⟨j,w⟩:=jv;simp only [Nat.zero_add] at hj;subst hj;exact ⟨_,_,rfl,e v⟩
theorem XE(m:qN)(k j:cc)(v:AV):(m.vS k v).find j=if j=k then some v else m.find j:=by
 induction m with
 |nil=>
  simp only [qN.vS,qN.find,find?_cons,find?_nil];by_cases h:j=k
  ·subst h;simp
  ·have:(j==k)=false:=by simpa using h
   rw [this,if_neg h]
 |cons p m ih=>
  simp only [qN.vS];by_cases hk:k=p.1
  ·rw [if_pos (by simpa using hk)];subst hk;simp only [qN.find,find?_cons];by_cases h:j=p.1
   ·subst h;simp
   ·have:(j==p.1)=false:=by simpa using h
    rw [this,if_neg h]
  ·rw [if_neg (by simpa using hk)];simp only [qN.find,find?_cons] at ih ⊢;by_cases h:j=p.1
   ·subst h;simp only [beq_self_eq_true,map_some];rw [if_neg (Ne.symm hk)]
   ·have:(j==p.1)=false:=by simpa using h
    rw [this];exact ih
theorem MR{k:Nat}{l:List (Sl Int)}(h:Az n k l=true){t:Sl Int}(ht:l[i]?=some t):t.l.length=k/\jN n t.l=true:=by
 have:=yY h (lR.1 ht).1;unfold oW at this;rw [ht] at this;simp only [and_eq_true,decide_eq_true_eq] at this;exact ⟨this.1,this.2.1⟩
theorem wW{α β:Type}{enc:α->List AV}{nK:β->List AV}{h:Heap}:∀ {l:List (α×β)},(∀ p ∈ l,j8 true h (enc p.1) (nK p.2))->j8 true h (l.flatMap fun p=>enc p.1) (l.flatMap fun p=>nK p.2)
 |[],_=>.nil
 |p :: l,hp=>by
  rw [flatMap_cons,flatMap_cons];exact j8.append (hp p mem_cons_self) (wW fun q hq=>hp q (mem_cons_of_mem _ hq))
structure kX {α β:Type} (X:Nat->Prop) (enc:α->List AV) (nK:β->List AV) (sz k:Nat) (h:Heap) (a:AV) (l:List (α×β)):Prop where
 own:Own enc sz k h a (l.map (·.1))
 Ad:∀ p ∈ l,∀ h',(∀ b,k<=b->b<h.next->¬ X b->bR a≠some b->h'.get b=h.get b)->j8 true h' (enc p.1) (nK p.2)
 av:∀ b,bR a=some b->¬ X b
section
variable {α β:Type} {X:Nat->Prop} {enc:α->List AV} {nK:β->List AV} {sz k:Nat} {h h':Heap} {a:AV} {l:List (α×β)}
theorem kX.nil:kX X enc nK sz k h .ai []:=⟨.nil,fun p hp=>(by cases hp),fun b hb=>(by cases hb)⟩
theorem Own.agree{enc:α->List AV}{k:Nat}{h':Heap}{l:List α}(o:Own enc sz k h a l)(hb:∀ b,bR a=some b->h'.get b=h.get b)(hn:h.next<=h'.next):Own enc sz k h' a l:=by
 cases o with
 |nil=>exact .nil
 |row b l h1 h2 h3=>exact .row b _ h1 (Nat.lt_of_lt_of_le h2 hn) (by rw [hb b rfl];exact h3)
theorem kX.gG(o:kX X enc nK sz k h a l)(hb:∀ b,k<=b->b<h.next->¬ X b->h'.get b=h.get b)(hn:h.next<=h'.next):kX X enc nK sz k h' a l:=
 ⟨o.own.agree (fun b e=>hb b (o.own.ge e) (o.own.lt e) (o.av b e)) hn,fun p hp h2 hh=>o.Ad p hp h2 fun b b1 b2 b3 b4=>by rw [hh b b1 (Nat.lt_of_lt_of_le b2 hn) b3 b4,hb b b1 b2 b3],o.av⟩
theorem kX.ext(o:kX X enc nK sz k h a l)(hx:aV h h'):kX X enc nK sz k h' a l:=o.gG (fun b _ b2 _=>hx.get b b2) hx.next
theorem kX.low(o:kX X enc nK sz k h a l){d:Nat}(hd:d<k)(x:mI):kX X enc nK sz k (h.set d x) a l:=
 o.gG (fun b b1 _ _=>by rw [Heap.aG,if_neg (by omega)]) (by rw [Heap.aT];exact dK _)
theorem kX.amH(o:kX X enc nK sz k h a l){d:Nat}(hd:X d)(x:mI):kX X enc nK sz k (h.set d x) a l:=
 o.gG (fun b b1 _ b3=>by rw [Heap.aG,if_neg (fun e=>b3 (by rw [e];exact hd))]) (by rw [Heap.aT];exact dK _)
theorem kX.CL(o:kX X enc nK sz k h a l){j:Nat}(hj:j<=k):kX X enc nK sz j h a l:=
 ⟨o.own.CL hj,fun p hp h2 hh=>o.Ad p hp h2 fun b b1 b2 b3 b4=>hh b (Nat.le_trans hj b1) b2 b3 b4,o.av⟩
theorem kX.amI(o:kX (fun _=>False) enc nK sz k h a l)(hx:aV h h'){Y:Nat->Prop}(hY:∀ b,Y b->h.next<=b):kX Y enc nK sz k h' a l:=
 ⟨o.own.ext hx,fun p hp h2 hh=>o.Ad p hp h2 fun b b1 b2 _ b4=>by rw [hh b b1 (Nat.lt_of_lt_of_le b2 hx.next) (fun y=>by have:=hY b y;omega) b4,hx.get b b2],fun b e y=>by have:=hY b y;have:=o.own.lt e;omega⟩
theorem kX.push(o:kX X enc nK sz k h a l)(he:∀ x,(enc x).length=sz)(h1:∀ x,aW (enc x)=true)(hk:k<=h.next){bytes:Nat}(hroom:(l.length+1)*bytes<=cz)(v:α)(w:β)(hX:∀ b,X b->b<h.next)
  (hf:∀ h',(∀ b,k<=b->b<h.next->¬ X b->bR a≠some b->h'.get b=h.get b)->j8 true h' (enc v) (nK w)) :
  ∃ a' h',bB sz bytes a (.slice h.next 0 1 sz) (h.alloc (.cells (enc v)))=some (a',h')/\kX X enc nK sz k h' a' (l++[(v,w)])/\(∀ c,c<h.next->bR a≠some c->h'.get c=h.get c)/\h.next<=h'.next/\(∀ h0,aV h0 h->h0.next<=k->aV h0 h')/\∀ c,bR a'=some c->h.next<=c:=by
 obtain ⟨a',h',e1,o1,f1,n1,x1,b1⟩:=o.own.push he h1 hk (bytes:=bytes) (by simpa using hroom) v;refine ⟨a',h',e1,⟨by rw [map_append];exact o1,fun p hp h2 hh=>?_,fun b e x=>by have:=b1 b e;have:=hX b x;omega⟩,f1,n1,x1,b1⟩
 have ye:∀ b,k<=b->b<h.next->¬ X b->bR a≠some b->h2.get b=h.get b:=fun b c1 c2 c3 c4=>by
  rw [hh b c1 (by omega) c3 (fun e=>by have:=b1 b e;omega),f1 b c2 c4]
 rcases mem_append.1 hp with hp|hp
 ·exact o.Ad p hp h2 ye
 ·rw [mem_singleton] at hp;subst hp;exact hf h2 ye
theorem kX.data(o:kX X enc nK sz k h a l):∃ x:Sl β,x.l=l.map (·.2)/\∀ h2,(∀ b,k<=b->b<h.next->¬ X b->h2.get b=h.get b)->Fz true h2 a (dR nK sz x):=by
 obtain ⟨ow,fr,av⟩:=o;generalize hm:l.map (·.1)=m at ow
 cases ow with
 |nil=>
  have:l = []:=by simpa using hm
  subst this;exact ⟨none,rfl,fun h2 _=>.de rfl⟩
 |row b m h1 h2 h3=>
  subst hm;refine ⟨some (l.map (·.2)),rfl,fun g hg=>?_⟩;have fl:j8 true g (l.flatMap fun p=>enc p.1) (l.flatMap fun p=>nK p.2):=wW fun p hp=>fr p hp g fun c c1 c2 c3 c4=>hg c c1 c2 c3;have e1:(l.map (·.1)).flatMap enc=l.flatMap fun p=>enc p.1:=by rw [flatMap_map]
  have e2:(l.map (·.2)).flatMap nK=l.flatMap fun p=>nK p.2:=by rw [flatMap_map]
  have:dR nK sz (some (l.map (·.2))) = .ax (l.flatMap fun p=>nK p.2) 0 l.length sz:=by simp only [dR,e2,length_map]
  rw [this,length_map];exact .slice b 0 l.length sz _ _ (by rw [hg b h1 h2 (av b rfl),h3,e1]) fl.len fl.rel
theorem kX.fz(o:kX X enc nK sz k h a l):∃ x:Sl β,x.l=l.map (·.2)/\Fz true h a (dR nK sz x):=by
 obtain ⟨x,h1,h2⟩:=o.data;exact ⟨x,h1,h2 h fun _ _ _ _=>rfl⟩
end
def Ph:={ v:AV // aW [v]=true/\v.dX = [v] }
abbrev y8:=cc×Int×Ph
def jt(r:y8):List AV:=[.str r.1,I6 r.2.1,r.2.2.1]
theorem nL(r:y8):(jt r).length=3:=rfl
theorem zV(r:y8):aW (jt r)=true:=by
 have:=r.2.2.2.1;unfold jt;simp only [aW,Bool.and_true] at this ⊢;rw [this];rfl
theorem mR{enc:α->List AV}{k:Nat}{l:List α}(o:Own enc sz k h a l):aW [a]=true/\a.dX = [a]:=by cases o<;>exact ⟨rfl,rfl⟩
theorem RU(r:y8):eN [.str [],I6 0,.ai] [(0,3)] [.agg (jt r)]=some (jt r):=by
 have ho:=zV r
 have hf:sY [.str [],I6 0,.ai] [(0,3)] [.agg (jt r)]=some (jt r):=by
  have hc:AV.dX (.agg (jt r))=jt r:=rfl;have hp:eW [.str [],I6 0,.ai] 0 (jt r)=jt r:=rfl;simp only [sY,hc,hp,ho,nL];rfl
 unfold eN;rw [hf];simp only [ho,if_true]
abbrev Pj(X:Nat->Prop)(k:Nat)(h:Heap)(a:AV)(l:List (y8×Rel)):Prop:=kX X jt aY 3 k h a l
theorem MS{k:Int}{v:Ph}{x:Sl (Sl Int)}(hf:Fz true h v.1 (kM x)):j8 true h (jt (nm,k,v)) (aY ⟨nm,k,x⟩):=
 .cons (.scalar _ rfl) (.cons (.scalar _ rfl) (.cons hf .nil))
theorem MT(d:TypeId){enc:α->List AV}(x:Sl α):jC (.slice d) (dR enc sz x) .ai=some (.bool (match x with|none=>true|some _=>false)):=by cases x<;>rfl
theorem IM(y:Sl Int):eN [.ai] [(0,1)] [dH y]=some (jl y):=by cases y<;>rfl
theorem vw(y:Sl Int):aW (jl y)=true:=by cases y<;>rfl
theorem kX.y9{enc:α->List AV}{k:Nat}{l:List α}(o:Own enc sz k h a l)(hf:∀ v,AV.cP (enc v)=true):kX (fun _=>False) enc enc sz k h a (l.map fun v=>(v,v)):=
 ⟨by rw [List.map_map];simpa [Function.comp_def] using o,fun p hp h' _=>by
  obtain ⟨v,_,rfl⟩:=mem_map.1 hp
  exact .de (hf v),fun _ _ h=>h⟩
theorem sw{t:Sl Int}(ht:t.l.length<=1000000)(hK:∀ y:Sl Int,y.l=t.l->K (.ret (dH y)) h=true):Sem TP 49 [dH t] h K:=by
 have main:Sem TP 49 [dH t] Heap.empty (fun o h'=>yes (∃ v,∃ y:Sl Int,o = .ret v/\y.l=t.l/\Fz true h' v (dH y))):=by
  refine F.m9 ?_;rw [F.nQ];simp only [MT,aO]
  cases t with
  |none=>simp only [aL];exact bO.2 ⟨_,none,rfl,rfl,.de rfl⟩
  |some l=>
   obtain ⟨b,h',a1,a2,_,_,_⟩:=vu (wk pL (some l) (Heap.empty.alloc (.cells []))) ht;simp only [aK,sO,dr,a1,gO];exact bO.2 ⟨_,some l,rfl,rfl,pT a2⟩
 refine main.frozen (by simp [AV.cP,br iE]) fun o h' ho=>?_;obtain ⟨v,y,rfl,hy,hf⟩:=bO.1 ho;exact ⟨v,_,rfl,hf,hK y hy⟩
theorem Lc(s:St):dz TP s Tryz.f46.results.toList=(match au (some 2) (s.env 2) s.h,(some []:Option (List AV)) with|some v,some vs=>some (v :: vs)|_,_=>none):=by kernel_rfl
theorem cX{s:ct}(hs:s.small){h:Heap}{K:Out->Heap->Bool}(hK:∀ a h' l,aV h h'->Pj (fun _=>False) h.next h' a l->(l.map fun p=>bp p.2)=s.aA.l.map bp->K (.ret (.agg [I6 s.size,a])) h'=true):Sem TP 46 [.agg (ah s)] h K:=by
 have hm:cz=140737488355328:=rfl;have hbig:=hs.U4;refine F.yy ?_;rw [F.AW];simp only [cD (bU s),dr,Heap.aD];have g0:(Heap.alloc (Heap.alloc h (.cells (ah s))) (.cells [I6 0,.ai])).get h.next=sC (ah s):=by rw [Heap.aN,Heap.aD,if_neg (by omega)];exact ak _ _
 have g1:(Heap.alloc (Heap.alloc h (.cells (ah s))) (.cells [I6 0,.ai])).get (h.next+1)=sC [I6 0,.ai]:=ak _ _;have gn:(Heap.alloc (Heap.alloc h (.cells (ah s))) (.cells [I6 0,.ai])).next=h.next+2:=rfl
 have gx:aV h (Heap.alloc (Heap.alloc h (.cells (ah s))) (.cells [I6 0,.ai])):=(aV.alloc _ _).trans (aV.alloc _ _);generalize (Heap.alloc (Heap.alloc h (.cells (ah s))) (.cells [I6 0,.ai]))=H1 at g0 g1 gn gx ⊢;have lz:=lA g0 0 rfl;have ha:iP [I6 0,.ai] [(0,1)] [I6 s.size]=some (.agg [I6 s.size,.ai]):=rfl;obtain ⟨H2,se,p2,po,pn⟩:=cA (h:=H1) (zs:=[I6 0,.ai]) (cs:=[I6 s.size,.ai]) (n:=2) rfl rfl rfl;rw [gn] at p2 po pn se;have p0:H2.get h.next=sC (ah s):=by rw [po _ (by omega)];exact g0
 have p1:H2.get (h.next+1)=sC [I6 0,.ai]:=by rw [po _ (by omega)];exact g1
 have px:aV h H2:=⟨by omega,fun b hb=>by rw [po _ (by omega)];exact gx.get b hb⟩
 have lr:=lA p0 1 rfl;simp only [aO,lz,ha,se,lr]
 refine aB 0 s.aA.l.length (zero_le _) (fun i e h'=>∃ a l,h'.get (h.next+1)=sC [I6 0,.ai]/\h'.get (h.next+2)=sC [I6 s.size,a]/\Pj (fun _=>False) (h.next+3) h' a l/\(l.map fun p=>bp p.2)=(s.aA.l.take i).map bp/\aV h h'/\h.next+3<=h'.next /\
  e 2 = .ptr (h.next+1) 0/\e 3 = .ptr (h.next+2) 0/\e 13=qm s.aA/\e 14=I6 (s.aA.l.length:Int)/\e 15=I6 (i:Int)) ⟨_,[],p1,p2,.nil,rfl,px,by omega,rfl,rfl,rfl,rfl,rfl⟩ ?_ ?_
 ·rintro i e h' _ hi ⟨a,l,q1,q2,o,hl,qx,qn,e2,e3,qC,qt,rD⟩ K' hn gl hr hp;obtain ⟨r,hv⟩:=dM hi;have kW:=ij hv;have Nq:l.length=i:=by have:=congrArg List.length hl;rw [length_map,length_map,length_take,Nat.min_eq_left (by omega)] at this;exact this
  obtain ⟨H3,S5,p3,XF,pn3⟩:=cA (h:=h') (zs:=[.str [],I6 0,.ai]) (cs:=aY r) (n:=3) rfl rfl (gJ r);have ye:iP [.str [],I6 0,.ai] [(0,1),(1,1)] [.str r.name,I6 r.arity]=some (.agg [.str r.name,I6 r.arity,.ai]):=rfl;have l0:=lA p3 0 rfl;have l1:=lA p3 1 rfl;obtain ⟨H4,VY,p4,RV,pn4⟩:=cA (h:=H3) (zs:=[.str [],I6 0,.ai]) (cs:=[.str r.name,I6 r.arity,.ai]) (n:=3) rfl rfl rfl;rw [pn3] at VY p4 RV pn4;have x4:aV h' H4:=⟨by omega,fun b hb=>by rw [RV b (by omega),XF b (by omega)]⟩
  have l2:au none (.ptr h'.next 2) H4=some (kM r.aM):=by rw [aj (show H4.get h'.next=sC (aY r) by rw [RV _ (by omega)];exact p3)];rfl
  have qv:=hs.CV r kW;have hbt:r.aM.l.length<=cw:=by unfold cw;omega
  rw [F.cX.aP];simp only [qC,qt,rD,aO,aU hi,aQ s.aA hi,dB dY hv,S5];simp only [aO,l0,l1,ye,pn3,VY,l2]
  refine aB 0 r.aM.l.length (zero_le _) (fun j e h2=>∃ tv ts,h2.get (h'.next+1)=sC [.str r.name,I6 r.arity,tv]/\Own jl 1 (h'.next+2) h2 tv ts/\ts.map Sl.l=(r.aM.l.take j).map Sl.l/\aV h' h2/\h'.next+2<=h2.next /\
   e 2 = .ptr (h.next+1) 0/\e 3 = .ptr (h.next+2) 0/\e 13=qm s.aA/\e 14=I6 (s.aA.l.length:Int)/\e 15=I6 (i:Int)/\e 6 = .ptr (h'.next+1) 0/\e 25=kM r.aM/\e 26=I6 (r.aM.l.length:Int)/\e 27=I6 (j:Int))
   ⟨_,[],p4,.nil,rfl,x4,by omega,e2,e3,qC,qt,rD,rfl,rfl,rfl,rfl⟩ ?_ ?_
  ·rintro j e h2 _ hj ⟨tv,ts,q6,ot,tY,x2,XG,e2,e3,qC,qt,rD,e6,RX,A4,BX⟩ K2 uR fK r7 Ay;obtain ⟨t,D9⟩:=dM hj;have aeg:ts.length=j:=by have:=congrArg List.length tY;rw [length_map,length_map,length_take,Nat.min_eq_left (by omega)] at this;exact this
   have lt:=lA q6 2 rfl;rw [F.cX.cU];simp only [e6,RX,A4,BX,aO,aU hj,aQ r.aM hj,eY D9,lt];refine af (sw (by have:=hs.YL r kW t (ij D9);omega) fun y hy=>?_);obtain ⟨a5,h5,c5,o5,f5,n5,w5,b5⟩:=ot.push pV vw XG (bytes:=24) (by rw [hm];omega) y;have hne:bR tv≠some (h'.next+1):=fun hb=>by have:=ot.ge hb;omega
   have s6:h5.get (h'.next+1)=sC [.str r.name,I6 r.arity,tv]:=by rw [f5 _ (by omega) hne];exact q6
   have c6:=o5.ki
   have st:aS 1 (.ptr (h'.next+1) 2) a5 h5=some (h5.set (h'.next+1) (.cells [.str r.name,I6 r.arity,a5])):=by
    rw [cj (n:=1) s6 c6.2.1 c6.1 (by simp),c6.2.2];rfl
   simp only [aO,lt,AV.beq_refl,Bool.and_self,if_true,IM,c5,st,aE hj hbt];refine uR _ _ ⟨a5,ts++[y],by rw [Heap.aG,if_pos rfl],o5.mK (by omega) _,?_,(w5 h' x2 (by omega)).set (by omega) _,by rw [Heap.aT];omega,e2,e3,qC,qt,rD,e6,RX,A4,rfl⟩;rw [map_append,tY,take_add_one,D9,map_append];simp [hy]
  ·rintro e h2 ⟨tv,ts,q6,ot,tY,x2,XG,e2,e3,qC,qt,rD,e6,RX,A4,BX⟩ K2 fK;rw [jD (dK _)] at tY;have o2:=o.ext x2;obtain ⟨AB,MU⟩:=mR ot;have lq:au (some 3) (.ptr (h'.next+1) 0) h2=some (.agg (jt (r.name,r.arity,⟨tv,AB,MU⟩))):=by rw [aj q6];rfl
   have lo:au none (.ptr (h.next+2) 1) h2=some a:=by rw [aj (show h2.get (h.next+2)=sC [I6 s.size,a] by rw [x2.get _ (by omega)];exact q2)];rfl
   obtain ⟨x,jM,BY⟩:=(kX.y9 ot mG).data;have BV:x.l=ts:=by rw [jM,List.map_map];simp [Function.comp_def]
   obtain ⟨a5,h5,c5,o5,f5,n5,w5,b5⟩:=o2.push nL zV (by omega) (bytes:=48) (by have:=hs.aA;rw [hm];omega) (r.name,r.arity,⟨tv,AB,MU⟩) ⟨r.name,r.arity,x⟩ (fun _ h=>h.elim)
    (fun g hg=>MS (BY g fun b b1 b2 _=>hg b (by omega) b2 (fun h=>h) (fun hb=>by have:=o.own.lt hb;omega)))
   have hne:bR a≠some (h.next+2):=fun hb=>by have:=o.own.ge hb;omega
   have aeh:bR a≠some (h.next+1):=fun hb=>by have:=o.own.ge hb;omega
   have s2:h5.get (h.next+2)=sC [I6 s.size,a]:=by rw [f5 _ (by omega) hne,x2.get _ (by omega)];exact q2
   have s1:h5.get (h.next+1)=sC [I6 0,.ai]:=by rw [f5 _ (by omega) aeh,x2.get _ (by omega)];exact q1
   have c6:=o5.own.ki
   have st:aS 1 (.ptr (h.next+2) 1) a5 h5=some (h5.set (h.next+2) (.cells [I6 s.size,a5])):=by
    rw [cj (n:=1) s2 c6.2.1 c6.1 (by simp),c6.2.2];rfl
   rw [F.cX.cU];simp only [A4,BX,aO,aR];rw [fK,F.cX.cm];simp only [aO,reduceEqDiff,reduceIte,e3,e6,rD,lo,lq,RU,c5,st,aE hi hbig];refine hn _ _ ⟨a5,_,?_,?_,o5.low (by omega) _,?_,(w5 h (qx.trans x2) (by omega)).set (by omega) _,by rw [Heap.aT];omega,e2,e3,qC,qt,rfl⟩
   ·rw [Heap.aG,if_neg (by omega)];exact s1
   ·rw [Heap.aG,if_pos rfl]
   ·rw [map_append,hl,take_add_one,hv,map_append];simp [bp,BV,tY]
 ·rintro e h' ⟨a,l,q1,q2,o,hl,qx,qn,e2,e3,qC,qt,rD⟩ K' gl;rw [jD (dK _)] at hl;have lo:au (some 2) (.ptr (h.next+2) 0) h'=some (.agg [I6 s.size,a]):=by rw [aj q2];rfl
  have c:=o.own.ki
  have tX:aW [I6 s.size,a]=true:=by
   have:=c.1;rw [c.2.2] at this;simp only [aW,Bool.and_true] at this ⊢;rw [this];rfl
  have st:aS 2 (.ptr (h.next+1) 0) (.agg [I6 s.size,a]) h'=some (h'.set (h.next+1) (.cells [I6 s.size,a])):=by
   rw [cj (n:=2) (v:=.agg [I6 s.size,a]) q1 rfl tX (by simp)];rfl
  have RT:au (some 2) (.ptr (h.next+1) 0) (h'.set (h.next+1) (.cells [I6 s.size,a]))=some (.agg [I6 s.size,a]):=by rw [aj (cs:=[I6 s.size,a]) (by rw [Heap.aG,if_pos rfl])];rfl
  rw [F.cX.aP];simp only [qt,rD,aO,aR];rw [gl,F.cX.aC];simp only [kC,reduceEqDiff,reduceIte,e2,e3,lo,st,dr,Lc,RT,oneOf];exact hK a _ l (qx.set (by omega) _) ((o.low (by omega) _).CL (by omega)) hl
abbrev Lk:=cc->Nat->Bool
def lK(n:Nat)(L:Lk)(r:aI)(vs:List Int):Bool:=r.body.l.all fun c=>fQ n L c (bL vs (bH r c))
def jK(n:Nat)(r:aI)(vs:List Int):Nat:=mg n (bL vs (placesOf (varsOf r) r.args.l))
def AD(n:Nat)(r:aI)(vs:List Int):Prop:=vs.length=(varsOf r).length/\jN n vs=true
def lf(n:Nat)(rs:List aI)(L:Lk):Prop:=∀ r ∈ rs,∀ vs,AD n r vs->lK n L r vs=true->L r.name (jK n r vs)=true
structure Over (rs:List aI) (L C:Lk):Prop where
 le:∀ nm k,L nm k=true->C nm k=true
 off:∀ nm,(∀ r ∈ rs,r.name≠nm)->∀ k,C nm k=L nm k
structure rq (n:Nat) (rs:List aI) (L L':Lk):Prop where
 over:Over rs L L'
 closed:lf n rs L'
 least:∀ C,Over rs L C->lf n rs C->∀ nm k,L' nm k=true->C nm k=true
theorem Over.refl(rs:List aI)(L:Lk):Over rs L L:=⟨fun _ _ h=>h,fun _ _ _=>rfl⟩
theorem rq.unique{L A B:Lk}(h:rq n rs L A)(g:rq n rs L B):A=B:=by
 funext nm k;rw [Bool.eq_iff_iff];exact ⟨h.least B g.over g.closed nm k,g.least A h.over h.closed nm k⟩
def wX(rs:List aI):Prop:=∀ r ∈ rs,∀ c ∈ r.body.l,c.kind=0->c.neg=true->∀ q ∈ rs,q.name≠c.name
theorem Ea{A C:Lk}(hs:wX rs)(hle:∀ nm k,A nm k=true->C nm k=true)(aei:∀ nm,(∀ r ∈ rs,r.name≠nm)->∀ k,C nm k=A nm k)(hr:r ∈ rs){c:fT}(hc:c ∈ r.body.l)(h:fQ n A c t=true):fQ n C c t=true:=by
 unfold fQ at h ⊢;by_cases k0:c.kind=0
 ·rw [if_pos k0] at h ⊢
  cases hn:c.neg with
  |false=>
   rw [hn] at h;have:A c.name (mg n t)=true:=by simpa using h
   rw [hle _ _ this];rfl
  |true=>
   rw [hn] at h;rw [aei c.name (fun q hq=>hs r hr c hc k0 hn q hq)];exact h
 ·rw [if_neg k0] at h ⊢;exact h
theorem XH{A C:Lk}(hs:wX rs)(hle:∀ nm k,A nm k=true->C nm k=true)(aei:∀ nm,(∀ r ∈ rs,r.name≠nm)->∀ k,C nm k=A nm k)(hr:r ∈ rs)(h:lK n A r vs=true):lK n C r vs=true:=by
 unfold lK at h ⊢;rw [List.all_eq_true] at h ⊢;exact fun c hc=>Ea hs hle aei hr hc (h c hc)
inductive p9 (n:Nat) (rs:List aI) (lv:fJ.Lv) (L0:Lk):Nat->Lk->Prop
 |zero:p9 n rs lv L0 0 L0
 |succ (l:Nat) (L L':Lk):p9 n rs lv L0 l L->rq n (fW lv rs l) L L'->p9 n rs lv L0 (l+1) L'
theorem p9.unique{n:Nat}{rs:List aI}{lv:fJ.Lv}{L0:Lk}:∀ {l:Nat} {A B:Lk},p9 n rs lv L0 l A->p9 n rs lv L0 l B->A=B
 |0,A,B,h,g=>by cases h;cases g;rfl
 |l+1,A,B,h,g=>by
  cases h with
  |succ _ La _ ha la=>
   cases g with
   |succ _ Lb _ hb lb=>
    obtain rfl:=p9.unique ha hb;exact la.unique lb
theorem rq.nil{L:Lk}:rq n [] L L:=⟨.refl _ _,fun r hr=>(by cases hr),fun C ho _ nm k h=>ho.le nm k h⟩
theorem MV{l:Nat}(h:∀ r ∈ rs,lv r.name<l):fW lv rs l = []:=by
 unfold fW;rw [filter_eq_nil_iff];intro r hr;have:=h r hr;simp;omega
theorem p9.more{n:Nat}{rs:List aI}{lv:fJ.Lv}{L0:Lk}{t:Nat}{L:Lk}(h:p9 n rs lv L0 t L)(ht:∀ r ∈ rs,lv r.name<t):∀ d,p9 n rs lv L0 (t+d) L
 |0=>h
 |d+1=>by
  refine .succ (t+d) L L (p9.more h ht d) ?_;rw [MV fun r hr=>by have:=ht r hr;omega];exact .nil
theorem p9.same{L0:Lk}{s t:Nat}{A B:Lk}(h:p9 n rs lv L0 s A)(g:p9 n rs lv L0 t B)(hs:∀ r ∈ rs,lv r.name<s)(ht:∀ r ∈ rs,lv r.name<t):A=B:=by
 have h1:=h.more hs t;have g1:=g.more ht s;rw [Nat.add_comm t s] at g1;exact h1.unique g1
def Pk(rs:List aI)(lv:fJ.Lv):Prop:=∀ r ∈ rs,∀ c ∈ r.body.l,c.kind=0->(∃ q ∈ rs,q.name=c.name)->lv c.name+(if c.neg=true then 1 else 0)<=lv r.name
theorem Pk.acG(h:Pk rs lv)(l:Nat):wX (fW lv rs l):=by
 intro r hr c hc k0 hn q hq e;unfold fW at hr hq;simp only [mem_filter,decide_eq_true_eq] at hr hq;have:=h r hr.1 c hc k0 ⟨q,hq.1,e⟩;rw [hn,if_pos rfl,<- e,hq.2,hr.2] at this;omega
theorem za{l:Nat}:r ∈ fW lv rs l↔r ∈ rs/\lv r.name=l:=by
 unfold fW;simp [mem_filter]
theorem Eb{p:Nat×List Bool}(hp:D nm=some p){rk:Nat}(uQ:rk<p.2.length)(x:cc)(k:Nat):ee (nG D nm p.1 (p.2.set rk true)) x k=(ee D x k||(decide (x=nm)&&decide (k=rk))):=by
 unfold ee nG;by_cases hx:x=nm
 ·subst hx;rw [if_pos rfl,hp];simp only [decide_true,Bool.true_and];by_cases hk:k=rk
  ·subst hk;rw [getD_eq_getElem?_getD,getElem?_set,if_pos rfl,if_pos uQ];simp
  ·rw [getD_eq_getElem?_getD,getElem?_set,if_neg (fun e=>hk e.symm),<- getD_eq_getElem?_getD,eR hk,Bool.or_false]
 ·rw [if_neg hx,eR hx,Bool.false_and,Bool.or_false]
theorem aej(a b:Int):a<=Ts a b/\b<=Ts a b:=by unfold Ts;split<;>omega
theorem BK:∀ (ps:List Nat) (a:Int),a<=ps.foldl (fun a (p:Nat)=>Ts a (p:Int)) a/\∀ p ∈ ps,(p:Int)<=ps.foldl (fun a (p:Nat)=>Ts a (p:Int)) a
 |[],a=>⟨Int.le_refl _,fun p hp=>by cases hp⟩
 |q :: ps,a=>by
  have h:=BK ps (Ts a (q:Int));have g:=aej a (q:Int);refine ⟨by simp only [foldl_cons];omega,fun p hp=>?_⟩;simp only [foldl_cons];rcases mem_cons.1 hp with rfl|hp
  ·omega
  ·exact h.2 p hp
theorem zb{p:Nat}(hp:p ∈ ps):(p:Int)<=jJ ps:=(BK ps (-1)).2 p hp
theorem XI{k:Nat}(h:∀ p ∈ ps,p<k):jJ ps<(k:Int):=by
 unfold jJ
 have:∀ (ps:List Nat) (a:Int),a<(k:Int)->(∀ p ∈ ps,p<k)->ps.foldl (fun a (p:Nat)=>Ts a (p:Int)) a<(k:Int):=by
  intro ps
  induction ps with
  |nil=>intro a ha _;exact ha
  |cons q ps ih=>
   intro a ha hq;simp only [foldl_cons];refine ih _ ?_ fun p hp=>hq p (mem_cons_of_mem _ hp);have:=hq q mem_cons_self;unfold Ts;split<;>omega
 exact this ps (-1) (by omega) h
theorem Ld(ps:List Nat):-1<=jJ ps:=(BK ps (-1)).1
theorem sx{a b:List Int}(h:∀ p ∈ ps,a.getD p 0=b.getD p 0):bL a ps=bL b ps:=by
 unfold bL;exact map_congr_left h
theorem TB{c:fT}(hc:c ∈ r.body.l):jJ (bH r c)<((varsOf r).length:Int):=XI (nI (vo hc))
theorem getD_set_ne{a:List Int}(h:i≠v)(x:Int):(a.set v x).getD i 0=a.getD i 0:=by
 rw [getD_eq_getElem?_getD,getElem?_set,if_neg (fun e=>h e.symm),<- getD_eq_getElem?_getD]
theorem nt{a:List Int}(h:v<a.length)(x:Int):(a.set v x).getD v 0=x:=by
 rw [getD_eq_getElem?_getD,getElem?_set,if_pos rfl,if_pos h];rfl
theorem oY{L:Lk}{u:Int}:F8 n L r vs u=true↔∀ c ∈ r.body.l,jJ (bH r c)=u->fQ n L c (bL vs (bH r c))=true:=by
 unfold F8;rw [List.all_eq_true];refine ⟨fun h c hc e=>?_,fun h c hc=>?_⟩
 ·have:=h c hc;rw [fh e] at this;exact this
 ·by_cases e:jJ (bH r c)=u
  ·rw [h c hc e,Bool.or_true]
  ·rw [eR e];rfl
structure Mid (rs:List aI) (L C:Lk) (s:DB×Bool):Prop where
 over:Over rs L (ee s.1)
 le:∀ nm k,ee s.1 nm k=true->C nm k=true
theorem Mid.off{rs:List aI}{L C:Lk}{s:DB×Bool}(m:Mid rs L C s)(hC:Over rs L C):∀ nm,(∀ r ∈ rs,r.name≠nm)->∀ k,C nm k=ee s.1 nm k:=fun nm hn k=>by rw [hC.off nm hn,m.over.off nm hn]
theorem aaY{L C:Lk}(hcl:lf n rs C)(hr:r ∈ rs)(ha:AD n r vs)(qb:lK n C r vs=true)(hh:∀ p,s.1 r.name=some p->p.2.length=n ^ r.args.l.length)(m:Mid rs L C s):Mid rs L C (xO n r vs s):=by
 unfold xO
 cases hp:s.1 r.name with
 |none=>exact m
 |some p=>
  simp only;split
  ·exact m
  ·have sF:∀ p ∈ placesOf (varsOf r) r.args.l,p<vs.length:=by rw [ha.1];exact nI nH
   have nr:(placesOf (varsOf r) r.args.l).length=r.args.l.length:=by unfold placesOf;simp
   have uQ:mg n (bL vs (placesOf (varsOf r) r.args.l))<p.2.length:=by
    have:=pW (qO ha.2 sF);rw [mc,nr] at this;rw [hh p hp];exact this
   have hC:=hcl r hr vs ha qb;unfold jK at hC;refine ⟨⟨fun nm k h=>?_,fun nm hn k=>?_⟩,fun nm k h=>?_⟩
   ·simp only [Eb hp uQ,m.over.le nm k h,Bool.true_or]
   ·simp only [Eb hp uQ,eR (fun e:nm=r.name=>hn r hr e.symm),Bool.false_and,Bool.or_false];exact m.over.off nm hn k
   ·simp only [Eb hp uQ,or_eq_true,and_eq_true,decide_eq_true_eq] at h;rcases h with h|⟨rfl,rfl⟩
    ·exact m.le nm k h
    ·exact hC
theorem TC{N:Nat}(h:∀ p,s.1 nm=some p->p.2.length=N):∀ p,(xO n r vs s).1 nm=some p->p.2.length=N:=by
 intro p hp;unfold xO at hp
 cases hq:s.1 r.name with
 |none=>rw [hq] at hp;exact h p hp
 |some q=>
  rw [hq] at hp;simp only at hp;split at hp
  ·exact h p hp
  ·unfold nG at hp;simp only at hp;split at hp
   ·rename_i e;subst e;cases hp;simp only [length_set];exact h q hq
   ·exact h p hp
theorem Le{n:Nat}{rs:List aI}{L C:Lk}(hs:wX rs)(hC:Over rs L C)(hcl:lf n rs C){r:aI}(hr:r ∈ rs):∀ (m v:Nat) (vs:List Int) (s:DB×Bool),v+m=(varsOf r).length->AD n r vs->Mid rs L C s->(∀ p,s.1 r.name=some p->p.2.length=n ^ r.args.l.length) ->
  (∀ c ∈ r.body.l,jJ (bH r c)<(v:Int)->fQ n C c (bL vs (bH r c))=true) ->
  Mid rs L C (iV (fun s=>s.1) (xO n r) n r m v vs s).2/\(∀ p,(iV (fun s=>s.1) (xO n r) n r m v vs s).2.1 r.name=some p->p.2.length=n ^ r.args.l.length)/\AD n r (iV (fun s=>s.1) (xO n r) n r m v vs s).1/\∀ i,i<v->(iV (fun s=>s.1) (xO n r) n r m v vs s).1.getD i 0=vs.getD i 0
 |0,v,vs,s,hv,ha,hm,hl,hc=>by
  refine ⟨aaY hcl hr ha ?_ hl hm,TC hl,ha,fun _ _=>rfl⟩;unfold lK;rw [List.all_eq_true];intro c xN;refine hc c xN ?_;have:=TB xN;omega
 |m+1,v,vs,s,hv,ha,hm,hl,hc=>by
  refine iK (P:=fun (a:List Int×(DB×Bool))=>Mid rs L C a.2/\(∀ p,a.2.1 r.name=some p->p.2.length=n ^ r.args.l.length)/\AD n r a.1/\∀ i,i<v->a.1.getD i 0=vs.getD i 0) ⟨hm,hl,ha,fun _ _=>rfl⟩ fun a x hx hP=>?_;obtain ⟨p1,p2,p3,p4⟩:=hP;have YI:=mem_range.1 hx;have Tx:AD n r (a.1.set v (x:Int)):=⟨by rw [length_set];exact p3.1,nJ p3.2 v YI⟩
  have ye:∀ i,i<v->(a.1.set v (x:Int)).getD i 0=vs.getD i 0:=fun i hi=>by rw [getD_set_ne (by omega)];exact p4 i hi
  unfold lH;split
  ·rename_i qQ;rw [oY] at qQ
   obtain ⟨q1,q2,q3,q4⟩:=Le hs hC hcl hr m (v+1) (a.1.set v (x:Int)) a.2 (by omega) Tx p1 p2 fun c xN hlt=>by
    by_cases e:jJ (bH r c)=(v:Int)
    ·exact Ea hs p1.le (p1.off hC) hr xN (qQ c xN e)
    ·have UY:jJ (bH r c)<(v:Int):=(by omega);rw [sx (b:=vs) fun p hp=>ye p (by have:=zb hp;omega)];exact hc c xN UY
   exact ⟨q1,q2,q3,fun i hi=>by rw [q4 i (by omega)];exact ye i hi⟩
  ·exact ⟨p1,p2,Tx,ye⟩
theorem RY(n1:1<=n){L C:Lk}(hs:wX rs)(hC:Over rs L C)(hcl:lf n rs C)(hr:r ∈ rs)(hm:Mid rs L C s)(hl:∀ p,s.1 r.name=some p->p.2.length=n ^ r.args.l.length):Mid rs L C (nY n r s):=by
 unfold nY wU;split
 ·rename_i qQ;rw [oY] at qQ;have ha:AD n r (replicate (varsOf r).length 0):=⟨by simp,wo n1 _⟩
  refine (Le hs hC hcl hr (varsOf r).length 0 _ s (by omega) ha hm hl fun c xN hlt=>?_).1;have h1:=Ld (bH r c);exact Ea hs hm.le (hm.off hC) hr xN (qQ c xN (by omega))
 ·exact hm
def rX(n:Nat)(rs:List aI)(D:DB):Prop:=∀ r ∈ rs,∀ p,D r.name=some p->p.2.length=n ^ r.args.l.length
theorem U5(h:rX n rs s.1):rX n rs (xO n r vs s).1:=fun q hq=>TC (h q hq)
theorem MW(n1:1<=n)(h:rX n rs s.1):rX n rs (nY n r s).1:=wq (Q:=fun s:DB×Bool=>rX n rs s.1) n1 (fun vs s _ _ h=>U5 h) h
theorem U6(n1:1<=n){L C:Lk}(hs:wX rs)(hC:Over rs L C)(hcl:lf n rs C)(hm:Mid rs L C s)(hl:rX n rs s.1):Mid rs L C (pY n rs s)/\rX n rs (pY n rs s).1:=by
 unfold pY;exact iK (P:=fun s:DB×Bool=>Mid rs L C s/\rX n rs s.1) ⟨hm,hl⟩ fun s r hr h=>⟨RY n1 hs hC hcl hr h.1 (h.2 r hr),MW n1 h.2⟩
theorem Lf(n1:1<=n){C:Lk}(hs:wX rs)(hC:Over rs (ee D0) C)(hcl:lf n rs C)(hl:rX n rs D0)(hr:Reach n rs D0 D):Mid rs (ee D0) C (D,false)/\rX n rs D:=by
 induction hr with
 |refl=>exact ⟨⟨.refl _ _,hC.le⟩,hl⟩
 |step D _ ih=>
  obtain ⟨h1,h2⟩:=U6 n1 hs hC hcl ih.1 ih.2;exact ⟨⟨h1.over,h1.le⟩,h2⟩
def Still(s0 s:DB×Bool):Prop:=s.2=false->s=s0
theorem U7{s0:DB×Bool}(h:Still s0 s):Still s0 (xO n r vs s):=by
 intro hf;unfold xO at hf ⊢
 cases hp:s.1 r.name with
 |none=>rw [hp] at hf;exact h hf
 |some p=>
  rw [hp] at hf;simp only at hf ⊢;split at hf
  ·rename_i e;rw [if_pos e];exact h hf
  ·cases hf
theorem zc{n:Nat}{r:aI}{s0:DB×Bool}:∀ (m v:Nat) (vs:List Int) (s:DB×Bool),Still s0 s->Still s0 (iV (fun s=>s.1) (xO n r) n r m v vs s).2
 |0,v,vs,s,h=>U7 h
 |m+1,v,vs,s,h=>by
  refine iK (P:=fun (a:List Int×(DB×Bool))=>Still s0 a.2) h fun a x _ ha=>?_;unfold lH;split
  ·exact zc m (v+1) _ _ ha
  ·exact ha
theorem CW{s0:DB×Bool}(h:Still s0 s):Still s0 (nY n r s):=by
 unfold nY wU;split
 ·exact zc _ _ _ _ h
 ·exact h
theorem wC{α β:Type}{st:α->DB×Bool}{f:α->β->α}(hf:∀ s0 a b,Still s0 (st a)->Still s0 (st (f a b))):∀ (l:List β) (a:α) {D:DB},st (l.foldl f a)=(D,false)->st a=(D,false)
 |[],a,D,h=>h
 |b :: l,a,D,h=>by
  have h1:=wC hf l (f a b) h;have h2:Still (st a) (st (f a b)):=hf (st a) a b (fun _=>rfl);rw [<- h2 (by rw [h1]),h1]
theorem wD{β:Type}{f:α->β->α}{l:List β}{b:β}(hb:b ∈ l)(a:α):∃ l1 l2,l=l1++b :: l2/\l.foldl f a=l2.foldl f (f (l1.foldl f a) b):=by
 obtain ⟨l1,l2,h⟩:=append_of_mem hb;exact ⟨l1,l2,h,by rw [h,foldl_append,foldl_cons]⟩
theorem Fc{m:Nat}(s0:DB×Bool)(a:List Int×(DB×Bool))(x:Nat)(h:Still s0 a.2):Still s0 (lH (fun s=>s.1) n r v (iV (fun s=>s.1) (xO n r) n r m (v+1)) a x).2:=by
 unfold lH;split
 ·exact zc m (v+1) _ _ h
 ·exact h
theorem Fe{n:Nat}{r:aI}:∀ (m v:Nat) (vs:List Int) (s:DB×Bool),AD n r vs->AD n r (iV (fun s=>s.1) (xO n r) n r m v vs s).1/\∀ i,i<v->(iV (fun s=>s.1) (xO n r) n r m v vs s).1.getD i 0=vs.getD i 0
 |0,v,vs,s,ha=>⟨ha,fun _ _=>rfl⟩
 |m+1,v,vs,s,ha=>by
  refine iK (P:=fun (a:List Int×(DB×Bool))=>AD n r a.1/\∀ i,i<v->a.1.getD i 0=vs.getD i 0) ⟨ha,fun _ _=>rfl⟩ fun a y hy hP=>?_;have hyn:y<n:=mem_range.1 hy;have Tx:AD n r (a.1.set v (y:Int)):=⟨by rw [length_set];exact hP.1.1,nJ hP.1.2 v hyn⟩
  have XJ:∀ i,i<v->(a.1.set v (y:Int)).getD i 0=vs.getD i 0:=fun i hi=>by rw [getD_set_ne (by omega)];exact hP.2 i hi
  unfold lH;split
  ·obtain ⟨w1,w2⟩:=Fe m (v+1) (a.1.set v (y:Int)) a.2 Tx;exact ⟨w1,fun i hi=>by rw [w2 i (by omega)];exact XJ i hi⟩
  ·exact ⟨Tx,XJ⟩
theorem Lg{n:Nat}{r:aI}{D:DB}(hD:∃ p,D r.name=some p):∀ (m v:Nat) (vs:List Int),v+m=(varsOf r).length->AD n r vs->(iV (fun s=>s.1) (xO n r) n r m v vs (D,false)).2=(D,false) ->
  ∀ us,AD n r us->(∀ i,i<v->us.getD i 0=vs.getD i 0)->lK n (ee D) r us=true->ee D r.name (jK n r us)=true
 |0,v,vs,hv,ha,hf,us,hu,ye,qb=>by
  obtain ⟨p,hp⟩:=hD
  have:us=vs:=by
   refine ext_getElem? fun i=>?_;by_cases hi:i<(varsOf r).length
   ·have:=ye i (by omega);rw [getD_eq_getElem?_getD,getD_eq_getElem?_getD,jQ (by rw [hu.1];exact hi),jQ (by rw [ha.1];exact hi)] at this;rw [jQ (by rw [hu.1];exact hi),jQ (by rw [ha.1];exact hi)];exact congrArg some this
   ·rw [getElem?_eq_none (by rw [hu.1];omega),getElem?_eq_none (by rw [ha.1];omega)]
  subst this;have hf':xO n r us (D,false)=(D,false):=hf;unfold xO at hf';simp only [hp] at hf';unfold ee jK;simp only [hp];split at hf'
  ·assumption
  ·exact absurd (congrArg Prod.snd hf') (by simp)
 |m+1,v,vs,hv,ha,hf,us,hu,ye,qb=>by
  have BU:v<us.length:=by rw [hu.1];omega
  have hin:=Xd hu.2 (jQ BU);obtain ⟨x,hx⟩:∃ x:Nat,us[v]=(x:Int):=⟨us[v].toNat,by omega⟩
  have YI:x<n:=by omega
  have hux:us.getD v 0=(x:Int):=by rw [getD_eq_getElem?_getD,jQ BU];exact hx
  have hf0:((List.range n).foldl (lH (fun s=>s.1) n r v (iV (fun s=>s.1) (xO n r) n r m (v+1))) (vs,((D,false):DB×Bool))).2=(D,false):=hf;obtain ⟨l1,l2,hl,hfo⟩:=wD (f:=lH (fun s=>s.1) n r v (iV (fun s=>s.1) (xO n r) n r m (v+1))) (mem_range.2 YI) (vs,((D,false):DB×Bool));rw [hfo] at hf0;have h1:=wC (st:=fun a:List Int×(DB×Bool)=>a.2) (fun s0 a b h=>Fc s0 a b h) l2 _ hf0
  have aaZ:(l1.foldl (lH (fun s=>s.1) n r v (iV (fun s=>s.1) (xO n r) n r m (v+1))) (vs,((D,false):DB×Bool))).2=(D,false):=by
   have h2:=Fc (m:=m) (n:=n) (r:=r) (v:=v) _ (l1.foldl (lH (fun s=>s.1) n r v (iV (fun s=>s.1) (xO n r) n r m (v+1))) (vs,((D,false):DB×Bool))) x (fun _=>rfl);exact (h2 (congrArg Prod.snd h1)).symm.trans h1
  have mP:AD n r (l1.foldl (lH (fun s=>s.1) n r v (iV (fun s=>s.1) (xO n r) n r m (v+1))) (vs,((D,false):DB×Bool))).1/\∀ i,i<v->(l1.foldl (lH (fun s=>s.1) n r v (iV (fun s=>s.1) (xO n r) n r m (v+1))) (vs,((D,false):DB×Bool))).1.getD i 0=vs.getD i 0:=by
   refine iK (P:=fun (a:List Int×(DB×Bool))=>AD n r a.1/\∀ i,i<v->a.1.getD i 0=vs.getD i 0) ⟨ha,fun _ _=>rfl⟩ fun a y hy hP=>?_;have hyn:y<n:=mem_range.1 (by rw [hl];exact mem_append_left _ hy);have Tx:AD n r (a.1.set v (y:Int)):=⟨by rw [length_set];exact hP.1.1,nJ hP.1.2 v hyn⟩
   have XJ:∀ i,i<v->(a.1.set v (y:Int)).getD i 0=vs.getD i 0:=fun i hi=>by rw [getD_set_ne (by omega)];exact hP.2 i hi
   unfold lH;split
   ·obtain ⟨w1,w2⟩:=Fe (n:=n) (r:=r) m (v+1) (a.1.set v (y:Int)) a.2 Tx;exact ⟨w1,fun i hi=>by rw [w2 i (by omega)];exact XJ i hi⟩
   ·exact ⟨Tx,XJ⟩
  generalize aaH:l1.foldl (lH (fun s=>s.1) n r v (iV (fun s=>s.1) (xO n r) n r m (v+1))) (vs,((D,false):DB×Bool))=acc at h1 aaZ mP;obtain ⟨av,sv⟩:=acc;replace aaZ:sv=(D,false):=aaZ;subst aaZ
  have ai2:∀ i,i<v+1->us.getD i 0=(av.set v (x:Int)).getD i 0:=fun i hi=>by
   by_cases e:i=v
   ·subst e;rw [hux,nt (by rw [mP.1.1];omega)]
   ·rw [getD_set_ne e,mP.2 i (by omega)];exact ye i (by omega)
  have qQ:F8 n (ee D) r (av.set v (x:Int)) (v:Int)=true:=by
   rw [oY];intro c hc e;rw [sx (b:=us) fun p hp=>(ai2 p (by have:=zb hp;omega)).symm];unfold lK at qb;rw [List.all_eq_true] at qb;exact qb c hc
  unfold lH at h1;simp only [qQ,if_true] at h1;exact Lg hD m (v+1) (av.set v (x:Int)) (by omega) ⟨by rw [length_set];exact mP.1.1,nJ mP.1.2 v YI⟩ h1 us hu ai2 qb
theorem RZ(n1:1<=n)(hD:∃ p,D r.name=some p)(h:nY n r (D,false)=(D,false))(us:List Int)(hu:AD n r us)(qb:lK n (ee D) r us=true):ee D r.name (jK n r us)=true:=by
 unfold nY wU at h
 have qQ:F8 n (ee D) r (replicate (varsOf r).length 0) (-1)=true:=by
  rw [oY];intro c hc e
  have uI:bH r c = []:=by
   cases uN:bH r c with
   |nil=>rfl
   |cons p ps=>
    have:=zb (ps:=bH r c) (p:=p) (by rw [uN];exact mem_cons_self);omega
  unfold lK at qb;rw [List.all_eq_true] at qb;have:=qb c hc;rw [uI] at this ⊢;exact this
 simp only [qQ,if_true] at h;exact Lg hD (varsOf r).length 0 _ (by omega) ⟨by simp,wo n1 _⟩ h us hu (fun i hi=>by omega) qb
theorem U8(n1:1<=n)(hD:∀ r ∈ rs,∃ p,D r.name=some p)(h:pY n rs (D,false)=(D,false)):lf n rs (ee D):=by
 intro r hr us hu qb;obtain ⟨l1,l2,hl,hfo⟩:=wD (f:=fun s r=>nY n r s) hr ((D,false):DB×Bool);unfold pY at h;rw [hfo] at h;have h1:=wC (st:=fun a:DB×Bool=>a) (f:=fun s r=>nY n r s) (fun s0 a b h=>CW h) l2 _ h;have h2:=wC (st:=fun a:DB×Bool=>a) (f:=fun s (r:aI)=>nY n r s) (fun s0 a b h=>CW h) [r] (l1.foldl (fun s r=>nY n r s) (D,false)) (D:=D) (by simpa using h1);replace h2:l1.foldl (fun s r=>nY n r s) ((D,false):DB×Bool)=(D,false):=h2;rw [h2] at h1;exact RZ n1 (hD r hr) h1 us hu qb
theorem U9(n1:1<=n)(hr:Reach n rs D0 D)(h:∃ p,D0 nm=some p):∃ p,D nm=some p:=by
 induction hr with
 |refl=>exact h
 |step D _ ih=>
  show ∃ p,(pY n rs (D,false)).1 nm=some p;unfold pY;refine iK (P:=fun s:DB×Bool=>∃ p,s.1 nm=some p) ih fun s r _ hs=>?_;refine wq (Q:=fun s:DB×Bool=>∃ p,s.1 nm=some p) n1 (fun vs s _ _ hs=>?_) hs;obtain ⟨p,hp⟩:=hs;unfold xO
  cases hq:s.1 r.name with
  |none=>exact ⟨p,hp⟩
  |some q=>
   simp only;split
   ·exact ⟨p,hp⟩
   ·unfold nG;by_cases e:nm=r.name
    ·exact ⟨_,if_pos e⟩
    ·exact ⟨p,by simp only [if_neg e];exact hp⟩
theorem Pm(n1:1<=n)(hs:wX rs)(hl:rX n rs D0)(hD:∀ r ∈ rs,∃ p,D0 r.name=some p)(hr:Reach n rs D0 D)(hp:pY n rs (D,false)=(D,false)):rq n rs (ee D0) (ee D):=by
 have hcl:=U8 n1 (fun r hq=>U9 n1 hr (hD r hq)) hp;refine ⟨?_,hcl,fun C hC hcC=>(Lf n1 hs hC hcC hl hr).1.le⟩
 have top:Over rs (ee D0) (fun nm k=>if (∃ r ∈ rs,r.name=nm) then true else ee D0 nm k):=⟨fun nm k h=>by
   by_cases e:∃ r ∈ rs,r.name=nm
   ·simp [e]
   ·simp [e,h],fun nm hn k=>by
   rw [if_neg];rintro ⟨r,h1,h2⟩
   exact hn r h1 h2⟩
 exact (Lf (C:=fun nm k=>if (∃ r ∈ rs,r.name=nm) then true else ee D0 nm k) n1 hs top (fun r hr vs _ _=>if_pos ⟨r,hr,rfl⟩) hl hr).1.over
theorem rX.UU{A B:DB}(h:rX n rs A)(hd:fV B A):rX n rs B:=fun r hr p hp=>by
 obtain ⟨p0,h1,_,h3⟩:=hd.back hp;rw [h3];exact h r hr p0 h1
theorem R2(n1:1<=n)(hr:Reach n rs D0 D):fV D D0:=by
 induction hr with
 |refl=>exact fun _=>rfl
 |step D _ ih=>
  show fV (pY n rs (D,false)).1 D0;unfold pY;refine iK (P:=fun s:DB×Bool=>fV s.1 D0) ih fun s r _ hs=>?_;refine wq (Q:=fun s:DB×Bool=>fV s.1 D0) n1 (fun vs s _ _ hs=>?_) hs;unfold xO
  cases hq:s.1 r.name with
  |none=>exact hs
  |some q=>
   simp only;split
   ·exact hs
   ·exact hs.set hq (by simp)
theorem Va(n1:1<=n)(UY:Pk rs lv)(hl:rX n rs D0)(hD:∀ r ∈ rs,∃ p,D0 r.name=some p):∀ {t:Nat} {D:DB},K4 n rs lv D0 t D->p9 n rs lv (ee D0) t (ee D)/\fV D D0:=by
 intro t D h
 induction h with
 |zero=>exact ⟨.zero,fun _=>rfl⟩
 |succ l D D' _ hr hp ih=>
  have hd:=(R2 n1 hr).trans ih.2;refine ⟨.succ l _ _ ih.1 (Pm n1 (UY.acG l) (fun r hr=>hl.UU ih.2 r (za.1 hr).1) (fun r hr=>?_) hr hp),hd⟩;obtain ⟨p,h1⟩:=hD r (za.1 hr).1;obtain ⟨q,h2,_⟩:=ih.2.get h1;exact ⟨q,h2⟩
def fI(ts:List jR):Lk:=fun nm k=>match ts.find? (fun t=>t.name==nm) with|some t=>t.bits.getD k false|none=>false
theorem vz{ts:List jR}(hn:(ts.map jR.name).Nodup){t:jR}(ht:ts[j]?=some t)(k:Nat):fI ts t.name k=t.bits.getD k false:=by
 have:∀ (ts:List jR),(ts.map jR.name).Nodup->∀ t ∈ ts,ts.find? (fun q=>q.name==t.name)=some t:=by
  intro ts
  induction ts with
  |nil=>intro _ t ht;cases ht
  |cons q ts ih=>
   intro hn t ht;rw [map_cons,nodup_cons] at hn;rw [find?_cons];rcases mem_cons.1 ht with rfl|ht
   ·simp
   ·have:(q.name==t.name)=false:=by
     rw [beq_eq_false_iff_ne];exact fun e=>hn.1 (by rw [e];exact List.mem_map_of_mem ht)
    rw [this];exact ih hn.2 t ht
 unfold fI;rw [this ts hn t (ij ht)]
theorem Ff{nm:cc}:∀ (ts:List jR) (j:Nat) (t t':jR),ts[j]?=some t->t'.name=t.name->t.name≠nm->(ts.set j t').find? (fun q=>q.name==nm)=ts.find? (fun q=>q.name==nm)
 |[],j,t,t',h,_,_=>by simp at h
 |q :: ts,0,t,t',h,hn,hne=>by
  simp at h;subst h;rw [set_cons_zero,find?_cons,find?_cons];rw [beq_eq_false_iff_ne.2 (by rw [hn];exact hne),beq_eq_false_iff_ne.2 hne]
 |q :: ts,j+1,t,t',h,hn,hne=>by
  rw [getElem?_cons_succ] at h;rw [set_cons_succ,find?_cons,find?_cons,Ff ts j t t' h hn hne]
theorem Ec:∀ (ts:List jR) (j:Nat) (t t':jR),ts[j]?=some t->t'.name=t.name->(ts.set j t').map jR.name=ts.map jR.name
 |[],j,t,t',h,_=>by simp at h
 |q :: ts,0,t,t',h,hn=>by simp at h;subst h;simp [hn]
 |q :: ts,j+1,t,t',h,hn=>by
  rw [getElem?_cons_succ] at h;rw [set_cons_succ,map_cons,map_cons,Ec ts j t t' h hn]
theorem Ed{ts:List jR}(hn:(ts.map jR.name).Nodup){t:jR}(ht:ts[j]?=some t){rk:Nat}(uQ:rk<t.bits.length)(x:cc)(k:Nat) :
  fI (ts.set j ⟨t.name,t.k,t.bits.set rk true⟩) x k=(fI ts x k||(decide (x=t.name)&&decide (k=rk))):=by
 have hj:=(lR.1 ht).1;by_cases hx:x=t.name
 ·subst hx;have h1:=vz (ts:=ts.set j ⟨t.name,t.k,t.bits.set rk true⟩) (by rw [Ec ts j t ⟨t.name,t.k,t.bits.set rk true⟩ ht rfl];exact hn) (j:=j) (t:=⟨t.name,t.k,t.bits.set rk true⟩) (by rw [getElem?_set,if_pos rfl,if_pos hj]) k;simp only at h1;rw [h1,vz hn ht k,fh rfl,Bool.true_and];by_cases hk:k=rk
  ·subst hk;rw [getD_eq_getElem?_getD,getElem?_set,if_pos rfl,if_pos uQ];simp
  ·rw [getD_eq_getElem?_getD,getElem?_set,if_neg (fun e=>hk e.symm),<- getD_eq_getElem?_getD,eR hk,Bool.or_false]
 ·rw [eR hx,Bool.false_and,Bool.or_false];unfold fI;rw [Ff ts j t ⟨t.name,t.k,t.bits.set rk true⟩ ht rfl (fun e=>hx e.symm)]
def Jp(n:Nat)(r:aI)(j:Nat)(vs:List Int)(s:List jR×Bool):List jR×Bool:=
 match s.1[j]? with
 |none=>s
 |some t=>if t.bits.getD (jK n r vs) false=true then s else if lK n (fI s.1) r vs=true then (s.1.set j ⟨t.name,t.k,t.bits.set (jK n r vs) true⟩,true) else s
def ig(n:Nat)(r:aI)(j m:Nat)(s:List jR×Bool):List jR×Bool:=(List.range m).foldl (fun s i=>Jp n r j (eo n (varsOf r).length i) s) s
def oZ(n:Nat)(jx:cc->Nat)(rs:List aI)(s:List jR×Bool):List jR×Bool:=rs.foldl (fun s r=>ig n r (jx r.name) (n ^ (varsOf r).length) s) s
theorem ze(n:Nat)(r:aI)(j m:Nat)(s:List jR×Bool):ig n r j (m+1) s=Jp n r j (eo n (varsOf r).length m) (ig n r j m s):=by
 unfold ig;rw [range_succ,foldl_append];rfl
theorem R3(s:List jR×Bool)(r:aI):oZ n jx (rs++[r]) s=ig n r (jx r.name) (n ^ (varsOf r).length) (oZ n jx rs s):=by
 unfold oZ;rw [foldl_append];rfl
structure iW (n:Nat) (jx:cc->Nat) (rs:List aI) (ts:List jR):Prop where
 nodup:(ts.map jR.name).Nodup
 at_:∀ r ∈ rs,∃ t,ts[jx r.name]?=some t/\t.name=r.name/\t.bits.length=n ^ r.args.l.length
theorem IN(ha:AD n r vs):jK n r vs<n ^ r.args.l.length:=by
 have sF:∀ p ∈ placesOf (varsOf r) r.args.l,p<vs.length:=by rw [ha.1];exact nI nH
 have nr:(placesOf (varsOf r) r.args.l).length=r.args.l.length:=by unfold placesOf;simp
 have:=pW (qO ha.2 sF);rw [mc,nr] at this;exact this
theorem R4{s:List jR×Bool}(h:iW n jx rs s.1):iW n jx rs (Jp n r j vs s).1:=by
 unfold Jp
 cases ht:s.1[j]? with
 |none=>exact h
 |some t=>
  simp only;split
  ·exact h
  ·split
   ·refine ⟨by show ((s.1.set j ⟨t.name,t.k,t.bits.set (jK n r vs) true⟩).map jR.name).Nodup;rw [Ec s.1 j t ⟨t.name,t.k,t.bits.set (jK n r vs) true⟩ ht rfl];exact h.nodup,fun q hq=>?_⟩;obtain ⟨u,h1,h2,h3⟩:=h.at_ q hq;simp only;by_cases e:jx q.name=j
    ·rw [e] at h1 ⊢;rw [ht] at h1;cases h1;exact ⟨⟨t.name,t.k,t.bits.set (jK n r vs) true⟩,by rw [getElem?_set,if_pos rfl,if_pos (lR.1 ht).1],h2,by simpa using h3⟩
    ·exact ⟨u,by rw [getElem?_set,if_neg (fun e'=>e e'.symm)];exact h1,h2,h3⟩
   ·exact h
structure MX (rs:List aI) (L C:Lk) (s:List jR×Bool):Prop where
 over:Over rs L (fI s.1)
 le:∀ nm k,fI s.1 nm k=true->C nm k=true
theorem aa0{L C:Lk}(hs:wX rs)(hC:Over rs L C)(hcl:lf n rs C)(hr:r ∈ rs)(ha:AD n r vs){s:List jR×Bool}(ho:iW n jx rs s.1)(m:MX rs L C s):MX rs L C (Jp n r (jx r.name) vs s):=by
 unfold Jp;obtain ⟨t,ht,htn,qv⟩:=ho.at_ r hr;rw [ht];simp only;split
 ·exact m
 ·split
  ·rename_i qb;have uQ:jK n r vs<t.bits.length:=by rw [qv];exact IN ha
   have ai4:=XH hs m.le (fun nm hn k=>by rw [hC.off nm hn,m.over.off nm hn]) hr qb;have hcC:=hcl r hr vs ha ai4;refine ⟨⟨fun nm k h=>?_,fun nm hn k=>?_⟩,fun nm k h=>?_⟩
   ·simp only [Ed ho.nodup ht uQ,m.over.le nm k h,Bool.true_or]
   ·simp only [Ed ho.nodup ht uQ,eR (fun e:nm=t.name=>hn r hr (by rw [e,htn])),Bool.false_and,Bool.or_false];exact m.over.off nm hn k
   ·simp only [Ed ho.nodup ht uQ,or_eq_true,and_eq_true,decide_eq_true_eq] at h;rcases h with h|⟨h1,h2⟩
    ·exact m.le nm k h
    ·rw [h1,htn,h2];exact hcC
  ·exact m
theorem j4(n:Nat):∀ k r,(eo n k r).length=k
 |0,_=>rfl
 |k+1,r=>by rw [eo,length_append,j4 n k];rfl
theorem IP(n1:1<=n)(hi:i<n ^ (varsOf r).length):AD n r (eo n (varsOf r).length i):=⟨j4 _ _ _,(su n1 hi).1⟩
theorem XK(n1:1<=n){us:List Int}(ha:AD n r us):∃ i,i<n ^ (varsOf r).length/\us=eo n (varsOf r).length i:=by
 have hlt:mg n us<n ^ (varsOf r).length:=by have:=pW ha.2;rwa [ha.1] at this
 refine ⟨mg n us,hlt,?_⟩;obtain ⟨h1,h2⟩:=su n1 hlt;exact Tz (by rw [j4,ha.1]) ha.2 h1 h2.symm
theorem R5(n1:1<=n){L C:Lk}(hs:wX rs)(hC:Over rs L C)(hcl:lf n rs C)(hr:r ∈ rs){s:List jR×Bool}(ho:iW n jx rs s.1)(m:MX rs L C s) :
  iW n jx rs (ig n r (jx r.name) (n ^ (varsOf r).length) s).1/\MX rs L C (ig n r (jx r.name) (n ^ (varsOf r).length) s):=by
 unfold ig;exact iK (P:=fun s:List jR×Bool=>iW n jx rs s.1/\MX rs L C s) ⟨ho,m⟩ fun s i hi h=>⟨R4 h.1,aa0 hs hC hcl hr (IP n1 (mem_range.1 hi)) h.1 h.2⟩
theorem Vb(n1:1<=n){L C:Lk}(hs:wX rs)(hC:Over rs L C)(hcl:lf n rs C){s:List jR×Bool}(ho:iW n jx rs s.1)(m:MX rs L C s):iW n jx rs (oZ n jx rs s).1/\MX rs L C (oZ n jx rs s):=by
 unfold oZ;exact iK (P:=fun s:List jR×Bool=>iW n jx rs s.1/\MX rs L C s) ⟨ho,m⟩ fun s r hr h=>R5 n1 hs hC hcl hr h.1 h.2
def zf(s0 s:List jR×Bool):Prop:=s.2=false->s=s0
theorem Ee{s0 s:List jR×Bool}(h:zf s0 s):zf s0 (Jp n r j vs s):=by
 intro hf;unfold Jp at hf ⊢
 cases ht:s.1[j]? with
 |none=>rw [ht] at hf;exact h hf
 |some t=>
  rw [ht] at hf;simp only at hf ⊢;split at hf
  ·rename_i e;rw [if_pos e];exact h hf
  ·rename_i e;rw [if_neg e];split at hf
   ·cases hf
   ·rename_i e2;rw [if_neg e2];exact h hf
theorem CX{m:Nat}{s0 s:List jR×Bool}(h:zf s0 s):zf s0 (ig n r j m s):=by
 unfold ig;exact iK (P:=fun s=>zf s0 s) h fun s i _ hs=>Ee hs
theorem rH{β:Type}{f:List jR×Bool->β->List jR×Bool}(hf:∀ s0 a b,zf s0 a->zf s0 (f a b)):∀ (l:List β) (a:List jR×Bool) {D:List jR},l.foldl f a=(D,false)->a=(D,false)
 |[],a,D,h=>h
 |b :: l,a,D,h=>by
  have h1:=rH hf l (f a b) h;have h2:zf a (f a b):=hf a a b (fun _=>rfl);rw [<- h2 (by rw [h1]),h1]
theorem R6(n1:1<=n){ts:List jR}(hn:(ts.map jR.name).Nodup){t:jR}(ht:ts[j]?=some t)(htn:t.name=r.name)(h:ig n r j (n ^ (varsOf r).length) (ts,false)=(ts,false))(us:List Int)(hu:AD n r us)(qb:lK n (fI ts) r us=true):fI ts r.name (jK n r us)=true:=by
 obtain ⟨i,hi,rfl⟩:=XK n1 hu;obtain ⟨l1,l2,hl,hfo⟩:=wD (f:=fun s i=>Jp n r j (eo n (varsOf r).length i) s) (mem_range.2 hi) ((ts,false):List jR×Bool);unfold ig at h;rw [hfo] at h;have h1:=rH (f:=fun s i=>Jp n r j (eo n (varsOf r).length i) s) (fun s0 a b h=>Ee h) l2 _ h;have h2:=rH (f:=fun s i=>Jp n r j (eo n (varsOf r).length i) s) (fun s0 a b h=>Ee h) [i] (l1.foldl (fun s i=>Jp n r j (eo n (varsOf r).length i) s) (ts,false)) (D:=ts) (by simpa using h1);rw [h2] at h1;unfold Jp at h1;simp only [ht,qb,if_true] at h1;have:=vz hn ht (jK n r (eo n (varsOf r).length i));rw [<- htn,this];split at h1
 ·assumption
 ·exact absurd (congrArg Prod.snd h1) (by simp)
theorem Vc(n1:1<=n){ts:List jR}(ho:iW n jx rs ts)(h:oZ n jx rs (ts,false)=(ts,false)):lf n rs (fI ts):=by
 intro r hr us hu qb;obtain ⟨t,ht,htn,_⟩:=ho.at_ r hr;obtain ⟨l1,l2,hl,hfo⟩:=wD (f:=fun s (r:aI)=>ig n r (jx r.name) (n ^ (varsOf r).length) s) hr ((ts,false):List jR×Bool);unfold oZ at h;rw [hfo] at h;have h1:=rH (f:=fun s (r:aI)=>ig n r (jx r.name) (n ^ (varsOf r).length) s) (fun s0 a b h=>CX h) l2 _ h;have h2:=rH (f:=fun s (r:aI)=>ig n r (jx r.name) (n ^ (varsOf r).length) s) (fun s0 a b h=>CX h) [r] (l1.foldl (fun s (r:aI)=>ig n r (jx r.name) (n ^ (varsOf r).length) s) (ts,false)) (D:=ts) (by simpa using h1);rw [h2] at h1;exact R6 n1 ho.nodup ht htn h1 us hu qb
inductive wE (n:Nat) (jx:cc->Nat) (rs:List aI) (T0:List jR):List jR->Prop
 |refl:wE n jx rs T0 T0
 |step (T:List jR):wE n jx rs T0 T->wE n jx rs T0 (oZ n jx rs (T,false)).1
theorem XL{s:List jR×Bool}(ho:iW n jx qs s.1):iW n jx qs (oZ n jx rs s).1:=by
 unfold oZ;refine iK (P:=fun s:List jR×Bool=>iW n jx qs s.1) ho fun s r _ h=>?_;unfold ig;exact iK (P:=fun s:List jR×Bool=>iW n jx qs s.1) h fun s i _ h=>R4 h
theorem iW.sub{ts:List jR}(h:iW n jx rs ts)(hs:∀ r ∈ qs,r ∈ rs):iW n jx qs ts:=⟨h.nodup,fun r hr=>h.at_ r (hs r hr)⟩
theorem zW{T0 T:List jR}(ho:iW n jx qs T0)(hr:wE n jx rs T0 T):iW n jx qs T:=by
 induction hr with
 |refl=>exact ho
 |step T _ ih=>exact XL (s:=(T,false)) ih
theorem MY(n1:1<=n){T0 T:List jR}(hs:wX rs)(ho:iW n jx rs T0)(hr:wE n jx rs T0 T)(hp:oZ n jx rs (T,false)=(T,false)):rq n rs (fI T0) (fI T):=by
 have key:∀ C,Over rs (fI T0) C->lf n rs C->MX rs (fI T0) C (T,false):=fun C hC hcl=>by
  clear hp
  induction hr with
  |refl=>exact ⟨.refl _ _,hC.le⟩
  |step T hT ih=>
   obtain ⟨_,h2⟩:=Vb n1 hs hC hcl (s:=(T,false)) (zW ho hT) ih;exact ⟨h2.over,h2.le⟩
 refine ⟨?_,Vc n1 (zW ho hr) hp,fun C hC hcC=>(key C hC hcC).le⟩
 have top:Over rs (fI T0) (fun nm k=>if (∃ r ∈ rs,r.name=nm) then true else fI T0 nm k):=⟨fun nm k h=>by
   by_cases e:∃ r ∈ rs,r.name=nm
   ·simp [e]
   ·simp [e,h],fun nm hn k=>by
   rw [if_neg];rintro ⟨r,h1,h2⟩
   exact hn r h1 h2⟩
 exact (key (fun nm k=>if (∃ r ∈ rs,r.name=nm) then true else fI T0 nm k) top fun r hr vs _ _=>if_pos ⟨r,hr,rfl⟩).over
inductive RunT (n:Nat) (jx:cc->Nat) (rs:List aI) (lv:fJ.Lv) (T0:List jR):Nat->List jR->Prop
 |zero:RunT n jx rs lv T0 0 T0
 |succ (l:Nat) (T T':List jR):RunT n jx rs lv T0 l T->wE n jx (fW lv rs l) T T'->oZ n jx (fW lv rs l) (T',false)=(T',false)->RunT n jx rs lv T0 (l+1) T'
theorem IQ(n1:1<=n){T0:List jR}(UY:Pk rs lv)(ho:iW n jx rs T0):∀ {t:Nat} {T:List jR},RunT n jx rs lv T0 t T->p9 n rs lv (fI T0) t (fI T)/\iW n jx rs T:=by
 intro t T h
 induction h with
 |zero=>exact ⟨.zero,ho⟩
 |succ l T T' _ hr hp ih=>
  exact ⟨.succ l _ _ ih.1 (MY n1 (UY.acG l) (ih.2.sub fun r hr=>(za.1 hr).1) hr hp),zW ih.2 hr⟩
def R7(es:List Entry)(ck:Nat)(m:gq):Prop:=nB es m/\ni es ck/\(m.map (·.1)).Nodup
theorem CY{v w:AV}{es:List Entry}{ck:Nat}(hP:h.get P=sC [v,.map M,w])(hM:h.get M=some (.map es ck))(hm0:R7 es ck m)(YH:P<h.next)(hMn:M<h.next){xs:Sl cc}
  (hK:∀ h' Cc Mj,h'.get M=some (.map Cc Mj)->R7 Cc Mj (m.vS nm xs.l.length)->(∀ b,b<h.next->b≠M->h'.get b=h.get b)->h.next<=h'.next->K (.ret (.bool (UO m nm xs.l.length))) h'=true) :
  Sem TP 139 [.ptr P 0,.agg [.str nm,iz xs]] h K:=by
 obtain ⟨hm,hB,UW⟩:=hm0;unfold UO at hK;refine F.ve ?_;rw [F.vX];have hb:eG (.agg [.str nm,iz xs])=some (lF nm xs):=cD (DV nm xs);simp only [hb,dr];have g0:(Heap.alloc h (.cells (lF nm xs))).get h.next=sC (lF nm xs):=ak _ _
 have gP:(Heap.alloc h (.cells (lF nm xs))).get P=sC [v,.map M,w]:=by rw [Heap.aN,if_neg (by omega)];exact hP
 have gM:(Heap.alloc h (.cells (lF nm xs))).get M=some (.map es ck):=by rw [Heap.aN,if_neg (by omega)];exact hM
 have gx:aV h (Heap.alloc h (.cells (lF nm xs))):=aV.alloc _ _;generalize (Heap.alloc h (.cells (lF nm xs)))=H at g0 gP gM gx ⊢;have VT:∀ x,(H.set M x).get h.next=sC (lF nm xs):=fun x=>by rw [Heap.aG,if_neg (by omega)];exact g0
 obtain ⟨Cc,Mj,hu,hue⟩:=Hj gM hm nm xs.l.length;simp only [aO,cM,aj gP,aj g0,lF,vT gM hm,hu];have fin:=hK (H.set M (.map Cc Mj)) Cc Mj (by rw [Heap.aG,if_pos rfl]) ⟨hue,AY gM hB hu (by rw [Heap.aG,if_pos rfl]),KS UW nm _⟩ (fun b hb hne=>by rw [Heap.aG,if_neg hne];exact gx.get b hb) (by rw [Heap.aT];exact gx.next)
 cases hf:m.find nm with
 |none=>
  rw [hf] at fin;simp only [isSome_none,Bool.not_false,aL];exact fin
 |some k=>
  rw [hf] at fin;simp only [isSome_some,Bool.not_true,aK,getD_some,aO,aj (VT _),lF,cy];exact fin
theorem Vd(mP:∀ r ∈ rules.l,r.ok)(iX:∀ r ∈ rules.l,r.k8)
  (uI:¬ nk rules.l->∀ h',(∀ b,b<h.next->h'.get b=h.get b)->K (.ret (.tuple [.eZ,bF])) h'=true)
  (DY:∀ h' P A M ks k,nk rules.l->fJ.ef (b6 rules.l) (fJ.iter (b6 rules.l) k)->h'.get P=sC [gm rules,.map A,.map M]->iu (bC rules.l) h' M ks (fJ.iter (b6 rules.l) k)->ks.Nodup->P<h'.next->M<h'.next->∀ m es ck,dQ rules.l []=some m->h'.get A=some (.map es ck)->R7 es ck m->h.next<=A->A<M->M<P->(∀ b,b<h.next->h'.get b=h.get b)->K (.ret (.tuple [.ptr P 0,bT])) h'=true):Sem TP 98 [gm rules] h K:=by
 refine F.Mp ?_;rw [F.Oq];simp only [Heap.aD,aiz,aiA,dr]
 have gA:(Heap.alloc (Heap.alloc (Heap.alloc h (.map [] 0)) (.map [] 0)) (.cells [gm rules,.map h.next,.map (h.next+1)])).get h.next=some (.map [] 0):=by
  rw [Heap.aN,Heap.aD,Heap.aD,if_neg (by omega),Heap.aN,Heap.aD,if_neg (by omega)];exact ak _ _
 have gM:(Heap.alloc (Heap.alloc (Heap.alloc h (.map [] 0)) (.map [] 0)) (.cells [gm rules,.map h.next,.map (h.next+1)])).get (h.next+1)=some (.map [] 0):=by
  rw [Heap.aN,Heap.aD,Heap.aD,if_neg (by omega)];exact ak _ _
 have gP:(Heap.alloc (Heap.alloc (Heap.alloc h (.map [] 0)) (.map [] 0)) (.cells [gm rules,.map h.next,.map (h.next+1)])).get (h.next+1+1)=sC [gm rules,.map h.next,.map (h.next+1)]:=ak _ _;have gn:(Heap.alloc (Heap.alloc (Heap.alloc h (.map [] 0)) (.map [] 0)) (.cells [gm rules,.map h.next,.map (h.next+1)])).next=h.next+1+1+1:=rfl
 have gF:∀ b,b<h.next->(Heap.alloc (Heap.alloc (Heap.alloc h (.map [] 0)) (.map [] 0)) (.cells [gm rules,.map h.next,.map (h.next+1)])).get b=h.get b:=(((aV.alloc _ _).trans (aV.alloc _ _)).trans (aV.alloc _ _)).get
 generalize (Heap.alloc (Heap.alloc (Heap.alloc h (.map [] 0)) (.map [] 0)) (.cells [gm rules,.map h.next,.map (h.next+1)]))=H0 at gA gM gP gn gF ⊢;obtain ⟨A,hA⟩:∃ A,A=h.next:=⟨_,rfl⟩
 obtain ⟨M,hM⟩:∃ M,M=h.next+1:=⟨_,rfl⟩
 obtain ⟨P,hP⟩:∃ P,P=h.next+1+1:=⟨_,rfl⟩
 rw [<- hP] at gP gn ⊢;rw [<- hM] at gM gP ⊢;rw [<- hA] at gA gP gF ⊢;have hAM:A<M:=by omega
 have hMP:M<P:=by omega
 clear hM hP;simp only [aO];by_cases h61:60<rules.l.length
 ·simp only [fh (by omega:(60:Int)<(rules.l.length:Int)),aL];exact uI (fun hg=>by have:=hg.k8;omega) _ (fun b hb=>gF b (by omega))
 have uo:rules.l.length<=60:=by omega
 simp only [eR (by omega:¬ (60:Int)<(rules.l.length:Int)),aK];have hbig:rules.l.length<=cw:=by unfold cw;omega
 have bad:dQ rules.l []=none->∀ h',(∀ b,b<A->h'.get b=h.get b)->K (.ret (.tuple [.eZ,bF])) h'=true:=fun hn h' hf=>uI (fun hg=>by obtain ⟨m,hm⟩:=hg.go;rw [hn] at hm;cases hm) h' (fun b hb=>hf b (by omega))
 refine aB 0 rules.l.length (zero_le _) (fun i e h'=>∃ m ks es ck,(∀ b,b<A->h'.get b=h.get b)/\dQ rules.l []=dQ (rules.l.drop i) m/\h'.get A=some (.map es ck)/\R7 es ck m/\iu (bC (rules.l.take i)) h' M ks (fun _=>0)/\ks.Nodup /\
  h'.get P=sC [gm rules,.map A,.map M]/\P<h'.next/\e 4 = .ptr P 0/\e 17=gm rules/\e 18=I6 (rules.l.length:Int)/\e 19=I6 (i:Int))
  ⟨[],[],[],0,gF,rfl,gA,⟨trivial,ni.nil 0,nodup_nil⟩,⟨[],0,[],gM,trivial,ni.nil 0,rfl,fun x=>by simp [bC,gq.find]⟩,nodup_nil,gP,by omega,rfl,rfl,rfl,rfl⟩ ?_ ?_
 ·rintro i e h' _ hi ⟨m,ks,es,ck,hF,hm,qA,hmI,la,Gy,qP,YH,e4,AA,e18,e19⟩ K' hn hx hr hp;obtain ⟨r,hv⟩:=dM hi;have Pn:=mP r (ij hv);have hrf:=iX r (ij hv);obtain ⟨H,BB,g1,go,gn1⟩:=cA (h:=h') (zs:=[.str [],.ai,.ai]) (cs:=bY r) (n:=3) rfl rfl (kr r);have pA:H.get A=some (.map es ck):=by rw [go A (by omega)];exact qA
  have pP:H.get P=sC [gm rules,.map A,.map M]:=by rw [go P (by omega)];exact qP
  have pl:iu (bC (rules.l.take i)) H M ks (fun _=>0):=la.gG (go M (by omega));rw [KU hv,dQ] at hm;rw [F.cI.aP];simp only [e4,AA,e18,e19,aO,aU hi,aQ rules hi,dB fo hv,BB];simp only [aO,aj g1,bY,Tq];refine af (Iq Pn.2.1 ?_);simp only [aO]
  cases ha:qB r.name r.args.l with
  |false=>
   rw [ha,cond_false] at hm;simp only [Bool.not_false,aL];rw [hr,F.cI.bg];exact bad hm _ (fun b hb=>by rw [go b (by omega)];exact hF b hb)
  |true=>
  rw [ha,cond_true,KW] at hm;simp only [Bool.not_true,aK,aO,aj g1,bY,Tq];refine af (CY pP pA hmI (by omega) (by omega) fun h3 es3 ck3 a1 a2 a3 a4=>?_);simp only [aO]
  cases hq:UO m r.name r.args.l.length with
  |false=>
   rw [hq,if_neg (by simp)] at hm;simp only [Bool.not_false,aL];rw [hr,F.cI.bg];exact bad hm _ (fun b hb=>by rw [a3 b (by omega) (by omega),go b (by omega)];exact hF b hb)
  |true=>
  rw [hq,if_pos rfl] at hm;have g3:h3.get h'.next=sC (bY r):=by rw [a3 _ (by omega) (by omega)];exact g1
  have P3:h3.get P=sC [gm rules,.map A,.map M]:=by rw [a3 P (by omega) (by omega)];exact pP
  have l3:iu (bC (rules.l.take i)) h3 M ks (fun _=>0):=pl.gG (a3 M (by omega) (by omega));simp only [Bool.not_true,aK,aO,aj g3,bY];by_cases xL:20<r.body.l.length
  ·simp only at hm;rw [if_pos xL] at hm;simp only [fh (by omega:(20:Int)<(r.body.l.length:Int)),aL];rw [hr,F.cI.bg];exact bad hm _ (fun b hb=>by rw [a3 b (by omega) (by omega),go b (by omega)];exact hF b hb)
  simp only at hm;rw [if_neg xL] at hm;simp only [eR (by omega:¬ (20:Int)<(r.body.l.length:Int)),aK,aO,si];refine af (dW hrf fun x jM=>?_);simp only [aO,jM];by_cases J9:12<(varsOf r).length
  ·rw [if_pos J9] at hm;simp only [fh (by omega:(12:Int)<((varsOf r).length:Int)),aL];rw [hr,F.cI.bg];exact bad hm _ (fun b hb=>by rw [a3 b (by omega) (by omega),go b (by omega)];exact hF b hb)
  rw [if_neg J9] at hm;simp only [eR (by omega:¬ (12:Int)<((varsOf r).length:Int)),aK,aO,aj g3,bY];have A3:r.body.l.length<=cw:=by unfold cw;omega
  refine aB 0 r.body.l.length (zero_le _) (fun j e h2=>∃ m2 es2 ck2,(∀ b,b<A->h2.get b=h.get b)/\sj r.body.l (m.vS r.name r.args.l.length)=sj (r.body.l.drop j) m2/\h2.get A=some (.map es2 ck2)/\R7 es2 ck2 m2/\iu (bC (rules.l.take i)) h2 M ks (fun _=>0) /\
   h2.get P=sC [gm rules,.map A,.map M]/\h2.get h'.next=sC (bY r)/\h'.next<h2.next/\e 4 = .ptr P 0/\e 6 = .ptr h'.next 0/\e 17=gm rules/\e 18=I6 (rules.l.length:Int)/\e 19=I6 (i:Int) /\
   e 47=uE r.body/\e 48=I6 (r.body.l.length:Int)/\e 49=I6 (j:Int))
   ⟨_,es3,ck3,fun b hb=>by rw [a3 b (by omega) (by omega),go b (by omega)];exact hF b hb,rfl,a1,a2,l3,P3,g3,by omega,e4,rfl,AA,e18,e19,rfl,rfl,rfl⟩ ?_ ?_
  ·rintro j e h2 _ hj ⟨m2,es2,ck2,hF2,Ob,qA2,aa4,UN,qP2,qR2,qj,e4,e6,AA,e18,e19,e47,e48,e49⟩ K2 uR fK r7 Ay;obtain ⟨c,hc⟩:=dM hj;have O2:=Pn.2.2.2.2 c (ij hc);obtain ⟨H2,se,k1,ko,kn⟩:=cA (h:=h2) (zs:=[I6 0,bF,.str [],.ai]) (cs:=dZ c) (n:=4) rfl rfl (jP c);have kA:H2.get A=some (.map es2 ck2):=by rw [ko A (by omega)];exact qA2
   have kP:H2.get P=sC [gm rules,.map A,.map M]:=by rw [ko P (by omega)];exact qP2
   have kR:H2.get h'.next=sC (bY r):=by rw [ko _ (by omega)];exact qR2
   have kl:iu (bC (rules.l.take i)) H2 M ks (fun _=>0):=UN.gG (ko M (by omega));rw [KU hc,sj] at Ob;rw [F.cI.cU];simp only [e4,e47,e48,e49,aO,aU hj,aQ r.body hj,dB jO hc,se];simp only [aO,aj k1,dZ,MH];refine af (iU O2 ?_);simp only [aO]
   cases hco:jy c with
   |false=>
    rw [hco,cond_false] at Ob;rw [Ob] at hm;simp only [Bool.not_false,aL];rw [r7,F.cI.k7,hr,F.cI.bg];exact bad hm _ (fun b hb=>by rw [ko b (by omega)];exact hF2 b hb)
   |true=>
   rw [hco,cond_true] at Ob;simp only [Bool.not_true,aK,aO,aj k1,dZ,cy];by_cases k0:c.kind=0
   ·rw [if_pos k0,KW] at Ob;simp only [fh k0,aL,aO,Tp];refine af (CY kP kA aa4 (by omega) (by omega) fun h4 es4 ck4 b1 b2 b3 b4=>?_);simp only [aO]
    cases XM:UO m2 c.name c.args.l.length with
    |false=>
     rw [XM,if_neg (by simp)] at Ob;simp only at Ob;rw [Ob] at hm;simp only [Bool.not_false,aL];rw [r7,F.cI.k7,hr,F.cI.bg];exact bad hm _ (fun b hb=>by rw [b3 b (by omega) (by omega),ko b (by omega)];exact hF2 b hb)
    |true=>
     rw [XM,if_pos rfl] at Ob;simp only [Bool.not_true,aK,aE hj A3,dr];refine uR _ _ ⟨_,es4,ck4,fun b hb=>by rw [b3 b (by omega) (by omega),ko b (by omega)];exact hF2 b hb,Ob,b1,b2,kl.gG (b3 M (by omega) (by omega)),?_,?_,by omega,e4,e6,AA,e18,e19,e47,e48,rfl⟩
     ·rw [b3 P (by omega) (by omega)];exact kP
     ·rw [b3 _ (by omega) (by omega)];exact kR
   ·rw [if_neg k0] at Ob;simp only [eR k0,aK,aE hj A3,dr];exact uR _ _ ⟨m2,es2,ck2,fun b hb=>by rw [ko b (by omega)];exact hF2 b hb,Ob,kA,aa4,kl,kP,kR,by omega,e4,e6,AA,e18,e19,e47,e48,rfl⟩
  ·rintro e h2 ⟨m2,es2,ck2,hF2,Ob,qA2,aa4,UN,qP2,qR2,qj,e4,e6,AA,e18,e19,e47,e48,e49⟩ K2 fK;rw [drop_of_length_le (dK _),sj] at Ob;rw [Ob] at hm;simp only at hm;obtain ⟨h5,ks5,u1,u2,u3,u4,u5⟩:=UN.add Gy r.name;rw [F.cI.cU];simp only [e48,e49,aO,aR];rw [fK,F.cI.cm];simp only [e4,e6,e19,aO,reduceEqDiff,reduceIte,cM,aj qP2,aj qR2,bY,u1,aE hi hbig];refine hn _ _ ⟨m2,ks5,es2,ck2,fun b hb=>by rw [u4 b (by omega)];exact hF2 b hb,hm,by rw [u4 A (by omega)];exact qA2,aa4,?_,u3,by rw [u4 P (by omega)];exact qP2,by omega,e4,AA,e18,rfl⟩;have:bC (rules.l.take (i+1))=bC (rules.l.take i)++[r.name]:=by unfold bC;rw [take_add_one,hv];simp
   rw [this];exact u2
 ·rintro e h' ⟨m,ks,es,ck,hF,hm,qA,hmI,la,Gy,qP,YH,e4,AA,e18,e19⟩ K' hx;rw [drop_of_length_le (dK _),dQ] at hm;rw [jD (dK _)] at la;have jb:=jY hm
  have amL:ks.length<=60:=by
   have:=fJ.uS Gy (m:=bC rules.l) fun x hx=>(la.mem x).1 hx;have h1:(bC rules.l).length=rules.l.length:=by simp [bC]
   omega
  rw [F.cI.aP];simp only [e18,e19,aO,aR];rw [hx,F.cI.aC];simp only [e4,aO,reduceEqDiff,reduceIte,cM,aj qP,la.len,aE (i:=ks.length) (n:=61) (by omega) (by unfold cw;omega)]
  refine aB 0 (ks.length+1) (zero_le _) (fun i e h'=>(∀ b,b<A->h'.get b=h.get b)/\h'.get A=some (.map es ck)/\iu (bC rules.l) h' M ks (fJ.iter (b6 rules.l) i)/\h'.get P=sC [gm rules,.map A,.map M]/\P<h'.next/\(∀ j,j<i->¬ fJ.ef (b6 rules.l) (fJ.iter (b6 rules.l) j)) /\
   e 4 = .ptr P 0/\e 82=I6 ((ks.length+1:Nat):Int)/\e 83=I6 (i:Int)) ⟨hF,qA,la,qP,YH,fun j hj=>by omega,e4,rfl,rfl⟩ ?_ ?_
  ·rintro i e h2 _ hi ⟨hF2,qA2,l2,q2,n2,US,e4,e82,e83⟩ K2 qj fK r7 Ay;rw [F.cI.lD];simp only [e4,e82,e83,aO,aU hi];refine af (RC (N:=i*1200) q2 l2 n2 (by omega) uo (fun r hr=>⟨(jb r hr).2.1,List.mem_map_of_mem hr⟩) (BC uo (fun r hr=>(jb r hr).2.1) i) (by omega) fun h3 l3 f3 n3=>?_);simp only [aO,not_not];have qA3:h3.get A=some (.map es ck):=by rw [f3 A (by omega) (by omega)];exact qA2
   have q3:h3.get P=sC [gm rules,.map A,.map M]:=by rw [f3 P n2 (by omega)];exact q2
   by_cases jL:fJ.ef (b6 rules.l) (fJ.iter (b6 rules.l) i)
   ·have O7:fJ.ef (mq (bC rules.l) rules.l) (fJ.iter (b6 rules.l) i):=jL;simp only [fh O7,aL];rw [r7,F.cI.Cy];simp only [kC,reduceEqDiff,reduceIte];rw [fJ.A9 O7] at l3;exact DY h3 P A M ks i ⟨uo,⟨m,hm⟩,i,jL⟩ jL q3 l3 Gy (by omega) (by omega) m es ck hm qA3 hmI (by omega) hAM hMP (fun b hb=>by rw [f3 b (by omega) (by omega)];exact hF2 b (by omega))
   ·have O7:¬ fJ.ef (mq (bC rules.l) rules.l) (fJ.iter (b6 rules.l) i):=jL;simp only [eR O7,aK,aE hi (show ks.length+1<=cw by unfold cw;omega),dr]
    exact qj _ _ ⟨fun b hb=>by rw [f3 b (by omega) (by omega)];exact hF2 b hb,qA3,l3,q3,by omega,fun j hj=>by
     by_cases hji:j=i
     ·subst hji;exact jL
     ·exact US j (by omega),e4,e82,rfl⟩
  ·rintro e h2 ⟨hF2,_,l2,q2,n2,US,e4,e82,e83⟩ K2 fK;rw [F.cI.lD];simp only [e82,e83,aO,aR];rw [fK,F.cI.jo];refine uI (fun hg=>?_) _ (fun b hb=>hF2 b (by omega));obtain ⟨k,hk⟩:=hg.lev;refine US ks.length (by omega) (fJ.settle (fun e he=>?_) hk);obtain ⟨r,hr,c,hc,_,hin,rfl⟩:=tJ he;exact ⟨(la.mem _).2 hin,(la.mem _).2 (List.mem_map_of_mem hr)⟩
theorem Lh(D:DB)(nm:cc)(b:Nat)(d d':List Bool):nG (nG D nm b d) nm b d'=nG D nm b d':=by
 funext j;unfold nG;by_cases e:j=nm
 ·rw [if_pos e,if_pos e]
 ·rw [if_neg e,if_neg e,if_neg e]
theorem nM(D:DB)(nm:cc)(b:Nat)(d:List Bool):nG D nm b d nm=some (b,d):=if_pos rfl
theorem zX{j:cc}(h:j≠nm)(b:Nat)(d:List Bool):nG D nm b d j=D j:=if_neg h
theorem ei.add{lo:Nat}(b:ei D h B lo)(GX:lo<=h.next)(N:Nat)(nm:cc) :
  ∃ h',fX .string (.map B) (.str nm) (.slice h.next 0 N 1) (h.alloc (.cells ((replicate N false).map bv)))=some h'/\ei (nG D nm h.next (replicate N false)) h' B lo/\(∀ c,c<h.next->c≠B->h'.get c=h.get c)/\h'.next=h.next+1:=by
 obtain ⟨es,ck,m,e1,e2,e3⟩:=b.ex;have hB:=b.lt;have a1:(h.alloc (.cells ((replicate N false).map bv))).get B=some (.map es ck):=by rw [Heap.aN,if_neg (by omega)];exact e1
 obtain ⟨Cc,Mj,hu,hue⟩:=Pg a1 e2 nm (.slice h.next 0 N 1);refine ⟨_,hu,⟨⟨Cc,Mj,_,by rw [Heap.aG,if_pos rfl],hue,fun j=>?_⟩,fun j q hq=>?_,fun j j' q q' hq rV hqq=>?_,by rw [Heap.aT,Heap.aD];omega⟩,fun c hc Ns=>by rw [Heap.aG,if_neg Ns,Heap.aN,if_neg (by omega)],by rw [Heap.aT,Heap.aD]⟩
 ·rw [XE];unfold nG;by_cases e:j=nm
  ·rw [if_pos e,if_pos e,map_some,length_replicate]
  ·rw [if_neg e,if_neg e,e3]
 ·unfold nG at hq;by_cases e:j=nm
  ·rw [if_pos e] at hq;cases hq;exact ⟨GX,by rw [Heap.aT,Heap.aD];exact lt_succ_self _,by show h.next≠B;omega,by rw [Heap.aG,if_neg (by show h.next≠B;omega)];exact ak _ _⟩
  ·rw [if_neg e] at hq;obtain ⟨k1,k2,k3,k4⟩:=b.nO j q hq;exact ⟨k1,by rw [Heap.aT,Heap.aD];omega,k3,by rw [Heap.aG,if_neg k3,Heap.aN,if_neg (by omega)];exact k4⟩
 ·unfold nG at hq rV;by_cases e:j=nm
  ·by_cases e':j'=nm
   ·rw [e,e']
   ·rw [if_pos e] at hq;rw [if_neg e'] at rV;cases hq;have:=(b.nO j' q' rV).2.1;simp only at hqq;omega
  ·by_cases e':j'=nm
   ·rw [if_neg e] at hq;rw [if_pos e'] at rV;cases rV;have:=(b.nO j q hq).2.1;simp only at hqq;omega
   ·rw [if_neg e] at hq;rw [if_neg e'] at rV;exact b.inj j j' q q' hq rV hqq
theorem XN{R:AV}(hS:h.get S=sC [I6 (n:Int),R])(h1:1<=n){x:Sl Int}{k:Nat}(hk:x.l.length=k)(hx:k<=12)(hc:n ^ k<=4096)(hb:jN n x.l=true)
  (hK:K (.ret (I6 ((mg n x.l:Nat):Int))) h=true):Sem TP 101 [.ptr S 0,dH x] h K:=RE hS h1 (by omega) (by rw [hk];exact hc) hb hK
theorem TD{k:Nat}(hk:k<=12)(hc:n ^ k<=4096):U0 n k = .tuple [I6 ((n ^ k:Nat):Int),I6 0]:=by rw [U0,if_neg (by omega),if_neg (by omega)]
theorem MZ{lo:Nat}{s:ct}{D1:DB}(oP:s.ok)(sQ:cY s=true)(hn:s.size=(n:Int))(n1:1<=n)(sK:n<=64)
  (hS:h.get S=sC [I6 (n:Int),.map B]) (hSB:h.get SB=sC (ah s)) (hD:ei D1 h B lo) (XO:S≠B) (XP:SB≠B) (Xe:S<h.next) (XQ:SB<h.next) (GX:lo<=h.next)
  (q3:e0 3 = .ptr SB 0) (q7:e0 7 = .ptr P 0) (q17:e0 17 = .ptr S 0) (amN:e0 154=qm s.aA) (amO:e0 155=I6 (s.aA.l.length:Int)) (amP:e0 156=I6 0)
  (done:∀ h' D',ei D' h' B lo->(∀ r ∈ s.aA.l,∃ b,h.next<=b/\D' r.name=some (b,bitsOf n r.arity.toNat r.aM.l))->(∀ nm,(∀ r ∈ s.aA.l,r.name≠nm)->D' nm=D1 nm)->(∀ c,c<h.next->c≠B->h'.get c=h.get c)->h.next<=h'.next->K (.ret (.tuple [.ptr P 0,.ptr S 0,I6 0])) h'=true) :
  bJ (EV F.az.L5) (sM e0 198 h) (F.az.L5k K)=true:=by
 have hbig:=oP.1;have hBn:=hD.lt
 refine aB 0 s.aA.l.length (zero_le _) (fun i e h'=>∃ D,ei D h' B lo/\(∀ r ∈ s.aA.l.take i,∃ b,h.next<=b/\D r.name=some (b,bitsOf n r.arity.toNat r.aM.l))/\(∀ nm,(∀ r ∈ s.aA.l.take i,r.name≠nm)->D nm=D1 nm)/\(∀ c,c<h.next->c≠B->h'.get c=h.get c)/\h.next<=h'.next /\
  e 3 = .ptr SB 0/\e 7 = .ptr P 0/\e 17 = .ptr S 0/\e 154=qm s.aA/\e 155=I6 (s.aA.l.length:Int)/\e 156=I6 (i:Int))
  ⟨D1,hD,fun r hr=>(by cases hr),fun _ _=>rfl,fun _ _ _=>rfl,dK _,q3,q7,q17,amN,amO,amP⟩ ?_ ?_
 ·rintro i e h' _ hi ⟨D,hDa,mZ,Ef,hfr,mS,e3,e7,AA,R8,Po,Pp⟩ K' vE hx hr hp;obtain ⟨r,hv⟩:=dM hi;have XA:r.ok:=oP.2 r (ij hv);have F9:=vt sQ hv;rw [show s.size.toNat=n by omega] at F9;obtain ⟨k,hk,Kc,Ve,Qr⟩:=wB F9;have hkn:r.arity.toNat=k:=by omega
  obtain ⟨H,BB,g1,go,gn⟩:=cA (h:=h') (zs:=[.str [],I6 0,.ai]) (cs:=aY r) (n:=3) rfl rfl (gJ r);have xH:aV h' H:=⟨by omega,fun b hb=>go b (by omega)⟩
  have pSB:H.get SB=sC (ah s):=by rw [xH.get _ (by omega),hfr _ XQ XP];exact hSB
  have pS:H.get S=sC [I6 (n:Int),.map B]:=by rw [xH.get _ (by omega),hfr _ Xe XO];exact hS
  have hDH:=hDa.ext xH;have lz:au none (.ptr SB 0) H=some (I6 (n:Int)):=by rw [aj pSB,<- hn];rfl
  have la:au none (.ptr h'.next 1) H=some (I6 (k:Int)):=by rw [aj g1,<- hk];rfl
  have ln:=lA g1 0 rfl;obtain ⟨h2,hu,hD2,S3,qj⟩:=hDH.add (by omega) (n ^ k) r.name;have lt:au none (.ptr h'.next 2) h2=some (kM r.aM):=by rw [aj (show h2.get h'.next=sC (aY r) by rw [S3 _ (by omega) (by omega)];exact g1)];rfl
  rw [F.az.acs];simp only [R8,Po,Pp,e3,AA,aO,aU hi,aQ s.aA hi,dB dY hv,BB];simp only [aO,lz,la];refine af (uu n1 sK (by unfold cw;omega) ?_);rw [TD Kc Ve];simp only [aO,cM,aj pS,ln,CO (show n ^ k<=1000000 by omega),hu,lt]
  refine aB 0 r.aM.l.length (zero_le _) (fun j e h3=>∃ d,bitsOf n k r.aM.l=kN n (r.aM.l.drop j) d/\d.length=n ^ k/\ei (nG D r.name H.next d) h3 B lo/\(∀ c,c<H.next->c≠B->h3.get c=H.get c)/\h3.next=h2.next /\
   e 3 = .ptr SB 0/\e 7 = .ptr P 0/\e 17 = .ptr S 0/\e 154=qm s.aA/\e 155=I6 (s.aA.l.length:Int)/\e 156=I6 (i:Int)/\e 25 = .ptr h'.next 0/\e 177=kM r.aM/\e 178=I6 (r.aM.l.length:Int)/\e 179=I6 (j:Int))
   ⟨_,rfl,by simp,hD2,S3,rfl,e3,e7,AA,R8,Po,Pp,rfl,rfl,rfl,rfl⟩ ?_ ?_
  ·rintro j e h3 _ hj ⟨d,hd,hdl,XR,XS,RP,e3,e7,AA,R8,Po,Pp,RX,aeo,aa5,aep⟩ K2 uR fK r7 Ay;obtain ⟨t,D9⟩:=dM hj;obtain ⟨qv,Qo⟩:=MR Qr D9;rw [zR D9] at hd;have uQ:mg n t.l<d.length:=by have:=pW Qo;rw [qv] at this;omega
   have wS:h3.get S=sC [I6 (n:Int),.map B]:=by rw [XS _ (by omega) XO];exact pS
   have wR:h3.get h'.next=sC (aY r):=by rw [XS _ (by omega) (by omega)];exact g1
   have lnm:=lA wR 0 rfl;have M0:=XR.look (nM D r.name H.next d);obtain ⟨_,_,_,pE⟩:=XR.nO r.name _ (nM D r.name H.next d);simp only at M0 pE;have mu:=XR.set (nM D r.name H.next d) (d:=d.set (mg n t.l) true) (by simp);rw [Lh] at mu;simp only at mu;rw [F.az.acu];simp only [AA,RX,aeo,aa5,aep,aO,aU hj,aQ r.aM hj,eY D9,cM,aj wS,lnm,M0];refine af (XN wS n1 qv Kc Ve Qo ?_);simp only [aO,aj wS,lnm,M0,AV.beq_refl,Bool.and_self,Bool.and_true,if_true,nh uQ,vm pE uQ,aE hj XA.2.1];exact uR _ _ ⟨_,hd,by simpa using hdl,mu,fun c hc Ns=>by rw [Heap.aG,if_neg (by omega)];exact XS c hc Ns,by rw [Heap.aT];exact RP,e3,e7,AA,R8,Po,Pp,RX,aeo,aa5,rfl⟩
  ·rintro e h3 ⟨d,hd,hdl,XR,XS,RP,e3,e7,AA,R8,Po,Pp,RX,aeo,aa5,aep⟩ K2 fK;rw [drop_of_length_le (dK _)] at hd;simp only [kN] at hd;rw [F.az.acu];simp only [aa5,aep,aO,aR];rw [fK,F.az.UH];simp only [aO,reduceEqDiff,reduceIte,Pp,aE hi hbig];refine vE _ _ ⟨nG D r.name H.next d,XR,fun q hq=>?_,fun nm rF=>?_,fun c hc Ns=>by rw [XS c (by omega) Ns,xH.get c (by omega)];exact hfr c hc Ns,by omega,e3,e7,AA,R8,Po,rfl⟩
   ·rw [take_add_one,hv] at hq;rcases mem_append.1 hq with rV|rV
    ·by_cases e:q.name=r.name
     ·obtain ⟨a,ha⟩:=mem_iff_getElem?.1 rV
      have YM:s.aA.l[a]?=some q:=by
       rw [getElem?_take] at ha;split at ha
       ·exact ha
       ·cases ha
      have hai:a<i:=by
       rw [getElem?_take] at ha;split at ha
       ·assumption
       ·cases ha
      have:=oX (qR sQ) (i:=a) (j:=i) (s:=q.name) (by rw [getElem?_map,YM];rfl) (by rw [getElem?_map,hv,e];rfl);omega
     ·obtain ⟨b,b1,b2⟩:=mZ q rV;exact ⟨b,b1,by rw [zX e];exact b2⟩
    ·simp only [toList_some,mem_singleton] at rV;subst rV;exact ⟨H.next,by omega,by rw [nM,hkn,hd]⟩
   ·have h1:nm≠r.name:=fun e=>rF r (by rw [take_add_one,hv];simp) e.symm;rw [zX h1];exact Ef nm fun q hq=>rF q (by rw [take_add_one,hv];exact mem_append_left _ hq)
 ·rintro e h' ⟨D,hDa,mZ,Ef,hfr,mS,e3,e7,AA,R8,Po,Pp⟩ K' hx;rw [jD (dK _)] at mZ Ef;rw [F.az.acs];simp only [Po,Pp,aO,aR];rw [hx,F.az.UG];simp only [kC,reduceEqDiff,reduceIte,e7,AA];exact done h' D hDa mZ Ef hfr mS
def YO(m:gq)(p:cc×Int):Option gq:=match m.find p.1 with
 |none=>some (m.vS p.1 p.2)
 |some k=>if k=p.2 then some (m.vS p.1 p.2) else none
def zg:List (cc×Int)->gq->Option gq
 |[],m=>some m
 |p :: l,m=>match YO m p with|none=>none|some m'=>zg l m'
theorem Pq(m:gq)(nm:cc)(n:Nat):Is m nm n=YO m (nm,(n:Int)):=rfl
theorem Fg:∀ (a b:List (cc×Int)) (m:gq),zg (a++b) m=match zg a m with|none=>none|some m'=>zg b m'
 |[],b,m=>rfl
 |p :: a,b,m=>by
  rw [cons_append,zg,zg]
  cases YO m p with
  |none=>rfl
  |some m'=>exact Fg a b m'
theorem BL:∀ (cs:List fT) (m:gq),sj cs m=if cs.all jy=true then zg (fq cs) m else none
 |[],m=>rfl
 |c :: cs,m=>by
  rw [sj,all_cons]
  cases hc:jy c with
  |false=>simp
  |true=>
   rw [cond_true,Bool.true_and];by_cases k0:c.kind=0
   ·have hca:fq (c :: cs)=(c.name,(c.args.l.length:Int)) :: fq cs:=(by unfold fq;simp [k0]);rw [if_pos k0,hca,zg,Pq]
    cases YO m (c.name,(c.args.l.length:Int)) with
    |none=>simp
    |some m'=>exact BL cs m'
   ·have hca:fq (c :: cs)=fq cs:=(by unfold fq;simp [k0]);rw [if_neg k0,hca];exact BL cs m
theorem wF:∀ (rs:List aI) (m:gq),dQ rs m=if rs.all lI=true then zg (cT rs) m else none
 |[],m=>rfl
 |r :: rs,m=>by
  have wu:cT (r :: rs)=(r.name,(r.args.l.length:Int)) :: (fq r.body.l++cT rs):=by unfold cT;simp [yU]
  rw [dQ,all_cons,wu,zg,E5,Pq];unfold lI
  cases h1:fG r.name with
  |false=>simp
  |true=>
  cases h2:pX r.args.l with
  |false=>simp
  |true=>
  simp only [Bool.true_and,cond_true];by_cases h3:r.body.l.length<=20
  ·by_cases h4:(varsOf r).length<=12
   ·rw [fh h3,fh h4,Bool.true_and,Bool.and_true]
    cases YO m (r.name,(r.args.l.length:Int)) with
    |none=>simp
    |some m1=>
     simp only;rw [if_neg (by omega),if_neg (by omega),BL,Fg]
     cases h5:r.body.l.all jy with
     |false=>simp
     |true=>
      rw [if_pos rfl,Bool.true_and]
      cases zg (fq r.body.l) m1 with
      |none=>simp
      |some m2=>exact wF rs m2
   ·rw [eR h4,Bool.and_false,Bool.and_false,Bool.false_and,if_neg (by simp)]
    cases YO m (r.name,(r.args.l.length:Int)) with
    |none=>rfl
    |some m1=>simp only;rw [if_neg (by omega),if_pos (by omega)]
  ·rw [eR h3,Bool.false_and,Bool.false_and,if_neg (by simp)]
   cases YO m (r.name,(r.args.l.length:Int)) with
   |none=>rfl
   |some m1=>simp only;rw [if_pos (by omega)]
def M4(l:List (cc×Int)):Prop:=∀ p ∈ l,∀ q ∈ l,p.1=q.1->p.2=q.2
theorem IS:∀ (l:List (cc×Int)) (m:gq),(∃ m',zg l m=some m')↔((∀ p ∈ l,∀ k,m.find p.1=some k->k=p.2)/\M4 l)
 |[],m=>⟨fun _=>⟨fun p hp=>(by cases hp),fun p hp=>(by cases hp)⟩,fun _=>⟨m,rfl⟩⟩
 |p :: l,m=>by
  have fu:∀ q:cc×Int,(m.vS p.1 p.2).find q.1=if q.1=p.1 then some p.2 else m.find q.1:=fun q=>zP m p.1 q.1 p.2
  have key:(∃ m',zg l (m.vS p.1 p.2)=some m')/\(∀ k,m.find p.1=some k->k=p.2)↔((∀ q ∈ p :: l,∀ k,m.find q.1=some k->k=q.2)/\M4 (p :: l)):=by
   rw [IS l];constructor
   ·rintro ⟨⟨h1,h2⟩,h3⟩;have hp:∀ q ∈ l,q.1=p.1->p.2=q.2:=fun q hq e=>h1 q hq p.2 (by rw [fu,if_pos e]);refine ⟨fun q hq k hk=>?_,fun a ha b hb e=>?_⟩
    ·rcases mem_cons.1 hq with rfl|hq
     ·exact h3 k hk
     ·by_cases e:q.1=p.1
      ·rw [e] at hk;rw [h3 k hk,hp q hq e]
      ·exact h1 q hq k (by rw [fu,if_neg e];exact hk)
    ·rcases mem_cons.1 ha with YM|YM<;>rcases mem_cons.1 hb with gN|gN
     ·rw [YM,gN]
     ·rw [YM] at e ⊢;exact hp b gN e.symm
     ·rw [gN] at e ⊢;exact (hp a YM e).symm
     ·exact h2 a YM b gN e
   ·rintro ⟨h1,h2⟩;refine ⟨⟨fun q hq k hk=>?_,fun a ha b hb e=>h2 a (mem_cons_of_mem _ ha) b (mem_cons_of_mem _ hb) e⟩,fun k hk=>h1 p mem_cons_self k hk⟩;rw [fu] at hk;by_cases e:q.1=p.1
    ·rw [if_pos e] at hk;cases hk;exact h2 p mem_cons_self q (mem_cons_of_mem _ hq) e.symm
    ·rw [if_neg e] at hk;exact h1 q (mem_cons_of_mem _ hq) k hk
  rw [<- key,zg];unfold YO
  cases hf:m.find p.1 with
  |none=>simp
  |some k=>
   by_cases hk:k=p.2
   ·subst hk;simp
   ·simp [hk]
theorem zY(rs:List aI):nk rs↔(rs.length<=60/\rs.all lI=true/\M4 (cT rs)/\∃ k,fJ.ef (b6 rs) (fJ.iter (b6 rs) k)):=by
 have h0:∀ p ∈ cT rs,∀ k,gq.find [] p.1=some k->k=p.2:=fun p _ k hk=>by simp [gq.find] at hk
 constructor
 ·rintro ⟨h1,⟨m,h2⟩,h3⟩;rw [wF] at h2;split at h2
  ·rename_i ha;exact ⟨h1,ha,((IS _ _).1 ⟨m,h2⟩).2,h3⟩
  ·cases h2
 ·rintro ⟨h1,h2,h3,h4⟩;obtain ⟨m,hm⟩:=(IS (cT rs) []).2 ⟨h0,h3⟩;exact ⟨h1,⟨m,by rw [wF,if_pos h2];exact hm⟩,h4⟩
theorem TE{p:cc×Int}(hp:x.l[i]?=some p):au none (.dL (x.l.flatMap rS) (i*2)) h=some (.str p.1):=dU tG hp (by omega:0<2)
theorem R9{p:cc×Int}(hp:x.l[i]?=some p):au none (.dL (x.l.flatMap rS) (i*2+1)) h=some (I6 p.2):=dU tG hp (by omega:1<2)
theorem bP{rules:Sl aI}(mP:∀ r ∈ rules.l,r.ok)(iX:∀ r ∈ rules.l,r.k8){h:Heap}{K:Out->Heap->Bool}(hK:∀ b:Bool,(b=true↔nk rules.l)->K (.ret (.bool b)) h=true):Sem TP 65 [gm rules] h K:=by
 have gen:∀ R:Out->Heap->Bool,(∀ (b:Bool) h',(b=true↔nk rules.l)->R (.ret (.bool b)) h'=true)->Sem TP 65 [gm rules] Heap.empty R:=by
  intro R fin;refine F.FE ?_;rw [F.HL];have no:∀ h',¬ nk rules.l->R (.ret bF) h'=true:=fun h' hn=>fin false h' ⟨fun h=>(by cases h),fun h=>absurd h hn⟩;simp only [aO];by_cases h61:60<rules.l.length
  ·simp only [fh (by omega:(60:Int)<(rules.l.length:Int)),aL];exact no _ (fun hg=>by have:=hg.k8;omega)
  have uo:rules.l.length<=60:=by omega
  have hbig:rules.l.length<=cw:=by unfold cw;omega
  simp only [eR (by omega:¬ (60:Int)<(rules.l.length:Int)),aK];refine aB 0 rules.l.length (zero_le _) (fun i e h'=>e 0=gm rules/\e 3=I6 (i:Int)/\(rules.l.take i).all lI=true) ⟨rfl,rfl,rfl⟩ ?_ ?_
  ·rintro i e h' _ hi ⟨e0,e3,ht⟩ K' hn hx hr hp;obtain ⟨r,hv⟩:=dM hi;rw [F.bP.aP];simp only [e0,e3,aO,aU hi,aQ rules hi,dB fo hv];refine af (dx (mP r (ij hv)) (iX r (ij hv)) ?_);simp only [aO]
   cases hq:lI r with
   |false=>
    simp only [Bool.not_false,aL];rw [hr,F.bP.bg]
    exact no _ (fun hg=>by
     have:=((zY _).1 hg).2.1
     rw [all_false hv hq] at this;cases this)
   |true=>
    simp only [Bool.not_true,aK,aE hi hbig,dr];exact hn _ _ ⟨e0,rfl,lE hv ht hq⟩
  ·rintro e h' ⟨e0,e3,ht⟩ K' hx;rw [jD (dK _)] at ht
   have xL:∀ r ∈ rules.l,r.body.l.length<=20:=fun r hr=>by
    have:=List.all_eq_true.1 ht r hr;unfold lI at this;simp only [and_eq_true,decide_eq_true_eq] at this;exact this.2.2.1
   rw [F.bP.aP];simp only [e0,e3,aO,aR];rw [hx,F.bP.aC];simp only [e0,aO,reduceEqDiff,reduceIte];refine af (dh uo xL fun x jM=>?_);simp only [aO];have BV:x.l.length<=1260:=by rw [jM];have:=yV rules.l xL;omega
   have Qp:x.l.length<=cw:=by unfold cw;omega
   refine aB 0 x.l.length (zero_le _) (fun i e h'=>e 0=gm rules/\e 4=dR rS 2 x/\e 5=I6 (i:Int)/\∀ a b p q,a<b->b<i->x.l[a]?=some p->x.l[b]?=some q->p.1=q.1->p.2=q.2) ⟨e0,rfl,rfl,fun a b p q h1 h2=>by omega⟩ ?_ ?_
   ·rintro i e h' _ hi ⟨e0,e4,e5,ye⟩ K1 Tw RK Wm YJ;obtain ⟨q,hvi⟩:=dM hi;rw [F.bP.cU];simp only [e4,e5,aO,aU hi];refine aB 0 i (zero_le _) (fun j e h'=>e 0=gm rules/\e 4=dR rS 2 x/\e 5=I6 (i:Int)/\e 6=I6 (j:Int)/\∀ a p,a<j->x.l[a]?=some p->p.1=q.1->p.2=q.2) ⟨e0,e4,e5,rfl,fun a p h1=>by omega⟩ ?_ ?_
    ·rintro j e h' _ hj ⟨e0,e4,e5,e6,haj⟩ K2 qj fK r7 Ay;have hjx:j<x.l.length:=by omega
     obtain ⟨p,hvj⟩:=dM hjx;have hib:i<=cw:=by omega
     rw [F.bP.lD];simp only [e4,e5,e6,aO,aU hj,aQ x hi,aQ x hjx,TE hvi,TE hvj,um];by_cases hq:p.1=q.1
     ·simp only [fh hq,aL,aO,R9 hvi,R9 hvj,cy];by_cases XM:p.2=q.2
      ·simp only [fh XM,Bool.not_true,aK,aE hj hib,dr];refine qj _ _ ⟨e0,e4,e5,rfl,fun a p' h1 h2=>?_⟩;by_cases aeq:a=j
       ·subst aeq;rw [hvj] at h2;cases h2;exact fun _=>XM
       ·exact haj a p' (by omega) h2
      ·simp only [eR XM,Bool.not_false,aL];rw [r7,F.bP.Cy,Wm,F.bP.k7];exact no _ (fun hg=>XM (((zY _).1 hg).2.2.1 p (by rw [<- jM];exact ij hvj) q (by rw [<- jM];exact ij hvi) hq))
     ·simp only [eR hq,aK,aE hj hib,dr];refine qj _ _ ⟨e0,e4,e5,rfl,fun a p' h1 h2=>?_⟩;by_cases aeq:a=j
      ·subst aeq;rw [hvj] at h2;cases h2;exact fun e=>absurd e hq
      ·exact haj a p' (by omega) h2
    ·rintro e h' ⟨e0,e4,e5,e6,haj⟩ K2 fK;rw [F.bP.lD];simp only [e5,e6,aO,aR];rw [fK,F.bP.jo];simp only [e5,aO,reduceEqDiff,reduceIte,aE hi Qp];refine Tw _ _ ⟨e0,e4,rfl,fun a b p' q' h1 h2 h3 h4=>?_⟩;by_cases hb:b=i
     ·subst hb;rw [hvi] at h4;cases h4;exact haj a p' h1 h3
     ·exact ye a b p' q' h1 (by omega) h3 h4
   ·rintro e h' ⟨e0,e4,e5,ye⟩ K1 RK
    have aer:M4 (cT rules.l):=fun p hp q hq e=>by
     rw [<- jM] at hp hq;obtain ⟨a,ha⟩:=mem_iff_getElem?.1 hp;obtain ⟨b,hb⟩:=mem_iff_getElem?.1 hq;have hal:=(lR.1 ha).1;have YK:=(lR.1 hb).1;rcases Nat.lt_trichotomy a b with h|h|h
     ·exact ye a b p q h YK ha hb e
     ·subst h;rw [ha] at hb;cases hb;rfl
     ·exact (ye b a q p h hal hb ha e.symm).symm
    rw [F.bP.cU];simp only [e4,e5,aO,aR];rw [RK,F.bP.cm];simp only [e0,aO,reduceEqDiff,reduceIte];refine af (bq uo xL (fun hk=>?_) (fun y k hk hy=>?_))
    ·simp only [aO];exact no _ (fun hg=>by obtain ⟨k,h⟩:=hg.lev;exact hk k h)
    ·simp only [aO];exact fin true _ ⟨fun _=>(zY _).2 ⟨uo,ht,aer,k,hk⟩,fun _=>rfl⟩
 have main:=gen (fun o h'=>yes (∃ b:Bool,o = .ret (.bool b)/\(b=true↔nk rules.l))) (fun b h' hb=>bO.2 ⟨b,rfl,hb⟩);refine main.frozen (by simp [AV.cP,br fN]) fun o h' ho=>?_;obtain ⟨b,rfl,hb⟩:=bO.1 ho;exact ⟨_,_,rfl,.scalar _ rfl,hK b hb⟩
theorem ei.mK{lo c:Nat}(b:ei D h B lo)(hc:c<lo)(Ns:c≠B)(x:mI):ei D (h.set c x) B lo:=by
 obtain ⟨es,ck,m,e1,e2,e3⟩:=b.ex;refine ⟨⟨es,ck,m,by rw [Heap.aG,if_neg (Ne.symm Ns)];exact e1,e2,e3⟩,fun nm p hp=>?_,b.inj,by rw [Heap.aT];exact b.lt⟩;obtain ⟨k1,k2,k3,k4⟩:=b.nO nm p hp;exact ⟨k1,by rw [Heap.aT];exact k2,k3,by rw [Heap.aG,if_neg (by omega)];exact k4⟩
theorem Li:∀ (l:List (cc×Int)) (m m':gq),zg l m=some m'->∀ x k,m'.find x=some k↔((x,k) ∈ l\/m.find x=some k)
 |[],m,m',h,x,k=>by cases h;simp
 |p :: l,m,m',h,x,k=>by
  have fu:=zP m p.1 x p.2
  have hs:YO m p=some (m.vS p.1 p.2)/\∀ j,m.find p.1=some j->j=p.2:=by
   rw [zg] at h;unfold YO at h ⊢
   cases hf:m.find p.1 with
   |none=>simp
   |some j=>
    rw [hf] at h;by_cases e:j=p.2
    ·simp [e]
    ·simp [e] at h
  rw [zg,hs.1] at h;rw [Li l _ m' h x k,fu];by_cases e:x=p.1
  ·rw [if_pos e,mem_cons];subst e;constructor
   ·rintro (h1|h1)
    ·exact .inl (.inr h1)
    ·cases h1;exact .inl (.inl rfl)
   ·rintro ((h1|h1)|h1)
    ·exact .inr (by rw [<- h1])
    ·exact .inl h1
    ·exact .inr (by rw [hs.2 k h1])
  ·rw [if_neg e,mem_cons];constructor
   ·rintro (h1|h1)
    ·exact .inl (.inr h1)
    ·exact .inr h1
   ·rintro ((h1|h1)|h1)
    ·exact absurd (congrArg Prod.fst h1) e
    ·exact .inl h1
    ·exact .inr h1
theorem nN(h:dQ rs []=some m)(x:cc)(k:Int):m.find x=some k↔(x,k) ∈ cT rs:=by
 rw [wF] at h;split at h
 ·rw [Li _ _ _ h];simp [gq.find]
 ·cases h
theorem pe(hr:r ∈ rs):(r.name,(r.args.l.length:Int)) ∈ cT rs:=mem_flatMap.2 ⟨r,hr,mem_cons_self⟩
theorem pg{xs:List cc}(h:qB nm xs=true):xs.length<=12:=by
 unfold qB at h;simp only [and_eq_true,decide_eq_true_eq] at h;omega
theorem BM(n1:1<=n)(h:i<=j):n ^ i<=n ^ j:=Nat.pow_le_pow_right n1 h
theorem Kf{s:ct}(hn:s.size=(n:Int))(n1:1<=n)(sK:n<=64)(iX:∀ r ∈ rules.l,r.k8)(uo:rules.l.length<=60)(J9:∀ r ∈ rules.l,(varsOf r).length<=12)
  (hSB:h.get SB=sC (ah s)) (XQ:SB<h.next) (q3:e0 3 = .ptr SB 0) (q7:e0 7 = .ptr P 0) (q17:e0 17 = .ptr S 0) (amS:e0 134=gm rules) (amT:e0 135=I6 (rules.l.length:Int)) (amU:e0 136=I6 0)
  (err:(∃ r ∈ rules.l,65536<n ^ (varsOf r).length)->∀ h',aV h h'->K (.ret (.tuple [.eZ,.eZ,I6 5])) h'=true)
  (done:(∀ r ∈ rules.l,n ^ (varsOf r).length<=65536)->∀ (e:Env) h',aV h h'->e 3 = .ptr SB 0->e 7 = .ptr P 0->e 17 = .ptr S 0->F.az.L3k K (.exit 6) (sM e 198 h')=true) :
  bJ (EV F.az.L3) (sM e0 198 h) (F.az.L3k K)=true:=by
 have hbig:rules.l.length<=cw:=by unfold cw;omega
 refine aB 0 rules.l.length (zero_le _) (fun i e h'=>aV h h'/\(∀ r ∈ rules.l.take i,n ^ (varsOf r).length<=65536)/\e 3 = .ptr SB 0/\e 7 = .ptr P 0/\e 17 = .ptr S 0/\e 134=gm rules/\e 135=I6 (rules.l.length:Int)/\e 136=I6 (i:Int))
  ⟨aV.refl _,fun r hr=>(by cases hr),q3,q7,q17,amS,amT,amU⟩ ?_ ?_
 ·rintro i e h' _ hi ⟨hx,mP,e3,e7,AA,Sa,Pr,Pt⟩ K' vE gl hr hp;obtain ⟨r,hv⟩:=dM hi;have kW:=ij hv;have ajb:=J9 r kW;obtain ⟨H,BB,g1,go,gn⟩:=cA (h:=h') (zs:=[.str [],.ai,.ai]) (cs:=bY r) (n:=3) rfl rfl (kr r);have xH:aV h H:=hx.trans ⟨by omega,fun b hb=>go b (by omega)⟩;have pSB:H.get SB=sC (ah s):=by rw [xH.get _ XQ];exact hSB
  have lz:au none (.ptr SB 0) H=some (I6 (n:Int)):=by rw [aj pSB,<- hn];rfl
  rw [F.az.Ot];simp only [Sa,Pr,Pt,aO,aU hi,aQ rules hi,dB fo hv,BB];simp only [aj g1,bY,si,dr];refine af (dW (iX r kW) fun x jM=>?_);simp only [aO];rw [jM];have hvb:(varsOf r).length<=cw:=by unfold cw;omega
  refine aB 0 (varsOf r).length (zero_le _) (fun j e h2=>h2=H/\n ^ j<=65536/\e 3 = .ptr SB 0/\e 7 = .ptr P 0/\e 17 = .ptr S 0/\e 134=gm rules/\e 135=I6 (rules.l.length:Int)/\e 136=I6 (i:Int)/\e 23=I6 ((n ^ j:Nat):Int)/\e 142=I6 ((varsOf r).length:Int)/\e 143=I6 (j:Int))
   ⟨rfl,by simp,e3,e7,AA,Sa,Pr,Pt,rfl,rfl,rfl⟩ ?_ ?_
  ·rintro j e h2 _ hj ⟨rfl,RG,e3,e7,AA,Sa,Pr,Pt,e23,aa7,aes⟩ K2 uR fK r7 Ay;have uN:n ^ (j+1)=n ^ j*n:=Nat.pow_succ n j;have hmul:n ^ j*n<=65536*64:=Nat.mul_le_mul RG sK;have hm:((n ^ j:Nat):Int)*(n:Int)=((n ^ (j+1):Nat):Int):=by rw [uN,Int.natCast_mul]
   have hmm:aF .mul (I6 ((n ^ j:Nat):Int)) (I6 (n:Int))=some (I6 ((n ^ (j+1):Nat):Int)):=by rw [zG (by rw [hm];omega) (by rw [hm];omega),hm]
   rw [F.az.Ou];simp only [e3,e23,aa7,aes,aO,aU hj,lz,hmm];by_cases hbg:65536<n ^ (j+1)
   ·simp only [fh (by omega:(65536:Int)<((n ^ (j+1):Nat):Int)),aL];rw [r7,F.az.Zr,hr,F.az.Zq];simp only [kC,reduceEqDiff,reduceIte];exact err ⟨r,kW,by have:=BM n1 (show j+1<=(varsOf r).length by omega);omega⟩ _ xH
   ·simp only [eR (by omega:¬ (65536:Int)<((n ^ (j+1):Nat):Int)),aK,aE hj hvb,dr];exact uR _ _ ⟨rfl,by omega,e3,e7,AA,Sa,Pr,Pt,rfl,aa7,rfl⟩
  ·rintro e h2 ⟨rfl,RG,e3,e7,AA,Sa,Pr,Pt,e23,aa7,aes⟩ K2 fK;rw [F.az.Ou];simp only [aa7,aes,aO,aR];rw [fK,F.az.HN];simp only [aO,reduceEqDiff,reduceIte,Pt,aE hi hbig];refine vE _ _ ⟨xH,fun q hq=>?_,e3,e7,AA,Sa,Pr,rfl⟩;rw [take_add_one,hv] at hq;rcases mem_append.1 hq with hq|hq
   ·exact mP q hq
   ·simp only [toList_some,mem_singleton] at hq;subst hq;exact RG
 ·rintro e h' ⟨hx,mP,e3,e7,AA,Sa,Pr,Pt⟩ K' gl;rw [jD (dK _)] at mP;rw [F.az.Ot];simp only [Pr,Pt,aO,aR];rw [gl];exact done mP _ h' hx e3 e7 AA
theorem Kg{IT:Nat}{s:ct}{esA:List Entry}{ckA:Nat}{hR:AV}(hn:s.size=(n:Int))(n1:1<=n)(sK:n<=64)(J9:∀ r ∈ rules.l,r.args.l.length<=12)(jb:dQ rules.l []=some m)
  (hS:h.get S=sC [I6 (n:Int),.map B]) (hSB:h.get SB=sC (ah s)) (hP:h.get P=sC [hR,.map A,.map M]) (hA:h.get A=some (.map esA ckA)) (hmA:R7 esA ckA m) (hl:iu (bC rules.l) h M ks lv)
  (hB:ei (fun _=>none) h B (IT+1)) (hIT:∀ es ck,h.get M=some (.map es ck)->h.get IT=some (.iT (some M) ck [] ck)) (asE:h.next=IT+1) (o1:S<IT) (o2:SB<IT) (o3:P<IT) (o4:A<IT) (o5:M<IT) (o6:B<IT) (b1:S≠B) (b2:SB≠B) (b3:P≠B) (b4:A≠B) (b5:M≠B)
  (q0:e0 0=gm rules) (q3:e0 3 = .ptr SB 0) (q7:e0 7 = .ptr P 0) (q17:e0 17 = .ptr S 0) (amX:e0 108 = .ptr IT 0)
  (err:(∃ r ∈ rules.l,4096<n ^ r.args.l.length)->∀ h',(∀ c,c<IT->c≠B->h'.get c=h.get c)->K (.ret (.tuple [.eZ,.eZ,I6 5])) h'=true)
  (done:∀ (e:Env) h' D,(∀ r ∈ rules.l,n ^ r.args.l.length<=4096)->ei D h' B (IT+1)->(∀ r ∈ rules.l,∃ b,D r.name=some (b,replicate (n ^ r.args.l.length) false))->(∀ nm p,D nm=some p->nm ∈ bC rules.l)->(∀ c,c<IT->c≠B->h'.get c=h.get c)->IT<h'.next ->
   e 0=gm rules->e 3 = .ptr SB 0->e 7 = .ptr P 0->e 17 = .ptr S 0->F.az.xj K (.exit 4) (sM e 198 h')=true) :
  bJ (EV F.az.L2) (sM e0 198 h) (F.az.xj K)=true:=by
 obtain ⟨es,ck,ml,z1,z2,z3,z4,z5⟩:=hl.ex;have w0:=hIT es ck z1;have Lj:∀ r ∈ rules.l,m.find r.name=some (r.args.l.length:Int):=fun r hr=>(nN jb _ _).2 (pe hr)
 refine DZ es (fun seen e hh=>∃ D,ei D hh B (IT+1)/\(∀ en ∈ es,en.2.2 ∈ seen->∀ r ∈ rules.l,en.1 = .str r.name->n ^ r.args.l.length<=4096/\∃ b,D r.name=some (b,replicate (n ^ r.args.l.length) false))/\(∀ nm p,D nm=some p->nm ∈ bC rules.l) /\
   hh.get IT=some (.iT (some M) ck seen ck)/\(∀ c,c<IT->c≠B->hh.get c=h.get c)/\IT<hh.next/\e 0=gm rules/\e 3 = .ptr SB 0/\e 7 = .ptr P 0/\e 17 = .ptr S 0/\e 108 = .ptr IT 0)
  ⟨_,hB,fun en _ uO=>(by cases uO),fun nm p hp=>(by cases hp),w0,fun _ _ _=>rfl,by omega,q0,q3,q7,q17,amX⟩ ?_
 rintro seen e hh ⟨D,hD,Ll,acM,w3,wf,wn,TF,e3,e7,AA,ajc⟩ K' Xy hex aaJ aiW;have hM:hh.get M=some (.map es ck):=by rw [wf M o5 b5];exact z1
 rw [F.az.lD];simp only [ajc];refine IF w3 hM z3 (by omega) (fun jS=>?_) (fun en uO hns G2=>?_)
 ·simp only [Mi,aO];rw [hex]
  have hev:∀ r ∈ rules.l,∃ en ∈ es,en.1 = .str r.name:=fun r hr=>by
   have h1:ml.find r.name=some (lv r.name:Int):=by rw [z5,if_pos (show r.name ∈ bC rules.l from List.mem_map_of_mem hr)]
   obtain ⟨en,uO,h2,_⟩:=z2.aaI _ (vk h1);exact ⟨en,uO,h2⟩
  refine done _ hh D (fun r hr=>?_) hD (fun r hr=>?_) acM wf wn TF e3 e7 AA
  ·obtain ⟨en,uO,h2⟩:=hev r hr;exact (Ll en uO (jS en uO) r hr h2).1
  ·obtain ⟨en,uO,h2⟩:=hev r hr;exact (Ll en uO (jS en uO) r hr h2).2
 obtain ⟨p,Jo,Tw,qj⟩:=z2.mem en uO;have hph:p.1 ∈ bC rules.l:=(hl.mem p.1).1 (by rw [<- z4];exact List.mem_map_of_mem Jo);obtain ⟨r,kW,BW⟩:=mem_map.1 hph;have vf:∀ c,c<IT->c≠B->(hh.set IT (.iT (some M) ck (seen++[en.2.2]) ck)).get c=h.get c:=fun c hc Ns=>by rw [Heap.aG,if_neg (by omega)];exact wf c hc Ns
 have v3:(hh.set IT (.iT (some M) ck (seen++[en.2.2]) ck)).get IT=some (.iT (some M) ck (seen++[en.2.2]) ck):=by rw [Heap.aG,if_pos rfl]
 have vn:(hh.set IT (.iT (some M) ck (seen++[en.2.2]) ck)).next=hh.next:=Heap.aT _ _ _
 have vD:=hD.mK (c:=IT) (by omega) (by omega) (.iT (some M) ck (seen++[en.2.2]) ck);simp only [Mi,sG,dr,cu,aL,G2,e3,e7,AA];clear G2;generalize (hh.set IT (.iT (some M) ck (seen++[en.2.2]) ck))=H at vf v3 vn vD ⊢;have pSB:H.get SB=sC (ah s):=by rw [vf _ o2 b2];exact hSB
 have pS:H.get S=sC [I6 (n:Int),.map B]:=by rw [vf _ o1 b1];exact hS
 have pP:H.get P=sC [hR,.map A,.map M]:=by rw [vf _ o3 b3];exact hP
 have pA:H.get A=some (.map esA ckA):=by rw [vf _ o4 b4];exact hA
 have lz:au none (.ptr SB 0) H=some (I6 (n:Int)):=by rw [aj pSB,<- hn];rfl
 have M0:eO .string (I6 0) false (.map A) (.str r.name) H=some (I6 (r.args.l.length:Int)):=by rw [yN pA hmA.1,Lj r kW];rfl
 have Iy:=J9 r kW;simp only [aO,Tw,<- BW,lz,cM,aj pP,M0];refine af (uu n1 sK (by unfold cw;omega) ?_);unfold U0;rw [if_neg (by omega)];by_cases wm:4096<n ^ r.args.l.length
 ·rw [if_pos wm];simp only [aO,cy];simp only [show (!decide ((5:Int)=0))=true from rfl,aL];rw [aaJ,F.az.Cy];simp only [kC,reduceEqDiff,reduceIte];exact err ⟨r,kW,wm⟩ _ vf
 ·rw [if_neg wm];obtain ⟨h2,hu,hD2,S3,W9⟩:=vD.add (by omega) (n ^ r.args.l.length) r.name;simp only [aO,cy];simp only [aO,aj pS,CO (show n ^ r.args.l.length<=1000000 by omega),hu];refine Xy en uO hns _ _ ⟨nG D r.name H.next _,hD2,fun en' O8 Vf q hq BZ=>?_,fun nm p' xb=>?_,by rw [S3 _ (by omega) (by omega)];exact v3,fun c hc Ns=>by rw [S3 c (by omega) Ns];exact vf c hc Ns,by omega,TF,e3,e7,AA,ajc⟩
  ·by_cases e:q.name=r.name
   ·have h1:=Lj q hq;rw [e,Lj r kW] at h1;have h2:r.args.l.length=q.args.l.length:=by have:=Option.some.inj h1;omega
    exact ⟨by rw [<- h2];omega,H.next,by rw [e,nM,h2]⟩
   ·rcases mem_append.1 Vf with Vf|Vf
    ·obtain ⟨a1,b,a2⟩:=Ll en' O8 Vf q hq BZ;exact ⟨a1,b,by rw [zX e];exact a2⟩
    ·rw [mem_singleton] at Vf
     have hee:en'=en:=by
      have hb:=z3.nodup;obtain ⟨i,hi⟩:=mem_iff_getElem?.1 uO;obtain ⟨j,hj⟩:=mem_iff_getElem?.1 O8;have Ae:(es.map (·.2.2))[i]?=some en.2.2:=by rw [getElem?_map,hi];rfl
      have Mc:(es.map (·.2.2))[j]?=some en.2.2:=by rw [getElem?_map,hj,<- Vf];rfl
      have hij:=oX hb Ae Mc;subst hij;rw [hi] at hj;exact (Option.some.inj hj).symm
     rw [hee,Tw] at BZ;injection BZ with h3;exact absurd (h3.symm.trans BW.symm) e
  ·by_cases e:nm=r.name
   ·rw [e];exact List.mem_map_of_mem kW
   ·rw [zX e] at xb;exact acM nm p' xb
theorem lQ:∀ {a b c:List Int},dA a b=true->dA b c=true->dA a c=true
 |x :: a,y :: b,z :: c,h1,h2=>by
  rw [dA] at h1 h2 ⊢;by_cases e1:x=y
  ·rw [if_pos e1] at h1;subst e1;by_cases e2:x=z
   ·rw [if_pos e2] at h2 ⊢;exact lQ h1 h2
   ·rw [if_neg e2] at h2 ⊢;exact h2
  ·rw [if_neg e1] at h1;have q1:=of_decide_eq_true h1;by_cases e2:y=z
   ·subst e2;rw [if_neg e1];exact h1
   ·rw [if_neg e2] at h2;have q2:=of_decide_eq_true h2;rw [if_neg (by omega)];exact fh (by omega)
 |[],_,_,h1,_=>by simp [dA] at h1
 |_ :: _,[],_,h1,_=>by simp [dA] at h1
 |_ :: _,_ :: _,[],_,h2=>by simp [dA] at h2
def ji(l:List (List Int)):Prop:=l.Pairwise fun a b=>dA a b=true
def aa8(n k:Nat)(l:List (List Int)):Prop:=(∀ t ∈ l,t.length=k/\jN n t=true)/\ji l
theorem IU:∀ {l:List (List Int)},(∀ i a b,l[i]?=some a->l[i+1]?=some b->dA a b=true)->ji l
 |[],_=>.nil
 |x :: l,h=>by
  have ih:ji l:=IU fun i a b ha hb=>h (i+1) a b (by simpa using ha) (by simpa using hb);refine pairwise_cons.2 ⟨fun y hy=>?_,ih⟩
  cases l with
  |nil=>cases hy
  |cons z l=>
   have hz:=h 0 x z rfl rfl;rcases mem_cons.1 hy with rfl|hy
   ·exact hz
   ·exact lQ hz ((pairwise_cons.1 ih).1 y hy)
theorem IV{l:List (List Int)}(hs:ji l){a b:List Int}(ha:l[i]?=some a)(hb:l[i+1]?=some b):dA a b=true:=by
 obtain ⟨h1,rfl⟩:=lR.1 ha;obtain ⟨h2,rfl⟩:=lR.1 hb;exact pairwise_iff_getElem.1 hs i (i+1) h1 h2 (lt_succ_self i)
theorem Pu{k:Nat}{l:List (Sl Int)}:Az n k l=true↔aa8 n k (l.map Sl.l):=by
 constructor
 ·intro h;refine ⟨fun t ht=>?_,IU fun i a b ha hb=>?_⟩
  ·obtain ⟨u,hu,rfl⟩:=mem_map.1 ht;obtain ⟨i,hi⟩:=getElem?_of_mem hu;exact MR h hi
  ·rw [getElem?_map] at ha hb;obtain ⟨p,hp,rfl⟩:=map_eq_some_iff.1 ha;obtain ⟨t,ht,rfl⟩:=map_eq_some_iff.1 hb;have:=yY h (lR.1 ht).1;unfold oW at this;rw [ht] at this;simp only [hp,and_eq_true] at this;exact this.2.2
 ·rintro ⟨h1,h2⟩;refine sN fun i hi=>?_;obtain ⟨t,ht⟩:=dM hi;obtain ⟨q1,q2⟩:=h1 t.l (List.mem_map_of_mem (ij ht));unfold oW;rw [ht];simp only [q1,q2,decide_true,Bool.true_and]
  cases i with
  |zero=>rfl
  |succ j=>
   have hj:j<l.length:=by omega
   obtain ⟨p,hp⟩:=dM hj;simp only [hp];exact IV h2 (i:=j) (by rw [getElem?_map,hp];rfl) (by rw [getElem?_map,ht];rfl)
theorem aa9{k:Nat}{l:List (List Int)}(h:aa8 n k l):l.length<=n ^ k:=by
 have key:∀ i a,l[i]?=some a->i<=mg n a:=by
  intro i
  induction i with
  |zero=>intro a _;exact zero_le _
  |succ i ih=>
   intro b hb;have hi:i<l.length:=by have:=(lR.1 hb).1;omega
   obtain ⟨a,ha⟩:=dM hi;have:=ih a ha;obtain ⟨a1,a2⟩:=h.1 a (ij ha);obtain ⟨b1,b2⟩:=h.1 b (ij hb);have:=K9 (by omega) a2 b2 (IV h.2 ha hb);omega
 cases hl:l.length with
 |zero=>exact zero_le _
 |succ m=>
  have hm:l[m]?=some (l[m]'(by omega)):=jQ _;have h1:=key m _ hm;obtain ⟨a1,a2⟩:=h.1 _ (ij hm);have h2:=pW a2;rw [a1] at h2;omega
def aje(n:Nat)(d:UP):Prop:=fG d.1=true/\∃ k:Nat,d.2.1=(k:Int)/\k<=12/\n ^ k<=4096/\aa8 n k d.2.2
theorem IW{r:Rel}:qu n r=true↔aje n (bp r):=by
 constructor
 ·intro h;obtain ⟨k,h1,h2,h3,h4⟩:=wB h;simp only [qu,and_eq_true] at h;exact ⟨h.1,k,h1,h2,h3,Pu.1 h4⟩
 ·rintro ⟨h0,k,h1,h2,h3,h4⟩;have h1':r.arity=(k:Int):=h1;have hk:r.arity.toNat=k:=by omega
  simp only [qu,and_eq_true,decide_eq_true_eq,hk];exact ⟨h0,by omega,by omega,h3,Pu.2 h4⟩
structure Pv (size:Int) (ds:List UP):Prop where
 lo:1<=size
 hi:size<=64
 k8:ds.length<=8
 rel:∀ d ∈ ds,aje size.toNat d
 names:(ds.map (·.1)).Nodup
theorem iM{s:ct}:cY s=true↔Pv s.size (s.aA.l.map bp):=by
 constructor
 ·intro h;have h':=h;simp only [cY,and_eq_true,decide_eq_true_eq] at h';refine ⟨h'.1,h'.2.1,by simpa using h'.2.2.1,fun d hd=>?_,?_⟩
  ·obtain ⟨r,hr,rfl⟩:=mem_map.1 hd;obtain ⟨i,hi⟩:=getElem?_of_mem hr;exact IW.1 (vt h hi)
  ·have:=qR h;rw [List.map_map];exact this
 ·rintro ⟨h1,h2,h3,h4,h5⟩;rw [length_map] at h3;simp only [cY,and_eq_true,decide_eq_true_eq];refine ⟨h1,h2,h3,sN fun i hi=>?_⟩;have hr:s.aA.l[i]?=some s.aA.l[i]:=jQ hi;have xM:=hr;generalize s.aA.l[i]=r at hr;rw [tK,hr];simp only [and_eq_true,not_eq_true'];refine ⟨IW.2 (h4 _ (List.mem_map_of_mem (ij hr))),?_⟩;rw [eq_false_iff];intro XT;obtain ⟨q,hq,BZ⟩:=List.any_eq_true.1 XT;obtain ⟨j,hj⟩:=getElem?_of_mem hq;have hji:j<i:=by have:=(lR.1 hj).1;rw [length_take] at this;omega
  rw [getElem?_take_of_lt hji] at hj;rw [List.map_map,List.Nodup,pairwise_iff_getElem] at h5;have L9:j<s.aA.l.length:=by omega
  have:=h5 j i (by simpa using L9) (by simpa using hi) hji;rw [getElem_map,getElem_map] at this;rw [jQ L9] at hj;rw [jQ hi] at hr;cases hj;cases hr;simp only [beq_iff_eq] at BZ;exact this BZ
theorem fO{s:ct}(h:cY s=true):s.small/\s.ok:=by
 have hp:=iM.1 h
 have len:∀ r ∈ s.aA.l,r.aM.l.length<=4096/\(∀ t ∈ r.aM.l,t.l.length<=12)/\r.name.length<=12:=fun r hr=>by
  obtain ⟨h0,k,h1,h2,h3,h4⟩:=hp.rel _ (List.mem_map_of_mem hr);have:=aa9 h4;simp only [bp,length_map] at this;refine ⟨by omega,fun t ht=>?_,?_⟩
  ·have:=(h4.1 t.l (List.mem_map_of_mem ht)).1;omega
  ·replace h0:fG r.name=true:=h0;unfold fG at h0;split at h0
   ·cases h0
   ·simp only [and_eq_true,decide_eq_true_eq] at h0;exact h0.1
 have hl:s.aA.l.length<=8:=by have:=hp.k8;simpa using this
 exact ⟨⟨by omega,fun r hr=>by have:=(len r hr).1;omega,fun r hr t ht=>by have:=(len r hr).2.1 t ht;omega⟩,
  ⟨by unfold cw;omega,fun r hr=>⟨by have:=(len r hr).2.2;unfold cw;omega,by have:=(len r hr).1;unfold cw;omega,fun t ht=>by have:=(len r hr).2.1 t ht;unfold cw;omega⟩⟩⟩
end
end Go.AM