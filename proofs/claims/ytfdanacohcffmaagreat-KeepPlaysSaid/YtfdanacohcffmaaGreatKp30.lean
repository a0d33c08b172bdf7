/- Parts of the proof. Conditions: none. -/
import Derived.Test.YtfdanacohcffmaaGreatKp29
set_option linter.unusedSimpArgs false
set_option linter.unusedVariables false
set_option maxHeartbeats 2000000
namespace Go.AM
open List Nat Bool Option
open Go Go.Proofs
noncomputable section
theorem VO{n:Nat}{L:Lk}{r:aI}{t:List Int}:Gg n L (iN r) t=Gg n L r t:=by
 have qb:∀ vs,lK n L (iN r) vs=lK n L r vs:=fun vs=>by
  unfold lK bH;rw [pq,sV]
 have an2:∀ vs,vB (iN r) t vs=vB r t vs:=fun vs=>by
  unfold vB;rw [sV,qY]
 have:∀ m v vs,qw n L (iN r) t m v vs=qw n L r t m v vs:=by
  intro m
  induction m with
  |zero=>intro v vs;unfold qw;rw [qb,an2]
  |succ m ih=>intro v vs;unfold qw;congr 1;exact map_congr_left fun x _=>ih _ _
 unfold Gg;rw [this,sV]
theorem Fs{n:Nat}{L:Lk}{nm:cc}{t:List Int}:∀ rs:List aI,iY n L nm t (rs.map iN)=iY n L nm t rs
 |[]=>rfl
 |r :: rs=>by
  rw [map_cons];unfold iY;rw [VO,vC,Fs rs]
theorem abL{rs:List aI}{s all:ct}(ho:dw rs s)(hp:kY rs s all){nm:cc}{k:Nat}:(s.aA.l.length:Int)<=jh (fe nm (k:Int)) all.aA.l↔SI rs nm k:=by
 have hv:=hp.valid ho;constructor
 ·intro h;rcases lP (fe nm (k:Int)) all.aA.l with ⟨w1,_⟩|⟨i,q,w1,w2,w3⟩
  ·omega
  ·have hs:=find?_some w3;simp only [fe,and_eq_true,beq_iff_eq,decide_eq_true_eq] at hs;obtain ⟨q1,q2,_⟩:=hp.aeR w2 (by omega);refine ⟨by rw [<- hs.1];exact (ej rs).1 q1,?_⟩;rw [<- hs.1];omega
 ·rintro ⟨h1,h2⟩;obtain ⟨_,F,hF,hd⟩:=hp;have hm:=(ej rs).2 h1;obtain ⟨i,hi⟩:=getElem?_of_mem hm
  have e:(all.aA.l.map bp)[s.aA.l.length+i]?=some (nm,(ke rs nm:Int),uL s.size.toNat F nm (ke rs nm) (s.size.toNat ^ ke rs nm)):=by
   rw [hd,getElem?_append_right (by simp),length_map,Nat.add_sub_cancel_left];unfold qd;rw [getElem?_map,hi];rfl
  rw [getElem?_map] at e
  cases hq:all.aA.l[s.aA.l.length+i]? with
  |none=>rw [hq] at e;cases e
  |some q=>
   rw [hq] at e;simp only [map_some,Option.some.injEq] at e;have e1:q.name=nm:=congrArg (·.1) e;have e2:q.arity=(ke rs nm:Int):=congrArg (·.2.1) e;rw [Jj hv hq (by unfold fe;rw [e1,e2,h2];simp)];omega
theorem Ys{rs:List aI}{nm:cc}{k:Nat}:SI (rs.map iN) nm k↔SI rs nm k:=by unfold SI;rw [BT,PX]
theorem Yt{rules xa:Sl aI}(c:tU rules xa){B:Nat->Prop}{h:Heap}{N M i:Nat}(x:pz rules xa B h N M i)(hi:i<=1000){a:Ge}(wu:a.t.l.length<=60){K:Out->Heap->Bool}
  (hK:∀ h',pz rules xa (fun b=>B b\/(h.next<=b/\b<h'.next)) h' N M (i+1)->(∀ b,b<h.next->¬ B b->h'.get b=h.get b)->h.next<=h'.next->K (.ret bT) h'=true):Sem TP 39 [.ptr N 0,.ptr M 0,.agg (qh a)] h K:=by
 have xx:=x;obtain ⟨s,all,dn,dl,sr,wv,W,p,hl,bN,bM,bD,bW⟩:=x;have hWl:=p.Qc.len;have hm1:aW (qh a)=true:=by unfold qh;simp only [aW,fS,Bool.and_true];rfl
 have still:∀ h',aV h h'->pz rules xa (fun b=>B b\/(h.next<=b/\b<h'.next)) h' N M (i+1):=fun h' e=>by
  obtain ⟨s,all,dn,dl,sr,wv,W,p,hl,bN,bM,bD,bW⟩:=(xx.gG (h':=h') (fun b hb _=>e.get b hb) e.next).mono (le_succ i);exact ⟨s,all,dn,dl,sr,wv,W,p,hl,.inl bN,.inl bM,fun b hb=>.inl (bD b hb),fun b hb=>.inl (bW b hb)⟩
 refine F.MD ?_;rw [F.OC];have e1:aV h (h.alloc (.cells (qh a))):=aV.alloc _ _;have g0:(h.alloc (.cells (qh a))).get h.next=sC (qh a):=ak _ _
 have n1:(h.alloc (.cells (qh a))).next=h.next+1:=Heap.aD _ _
 simp only [cD hm1,dr];generalize (h.alloc (.cells (qh a)))=H at e1 g0 n1 ⊢;have f:∀ h',h'.get h.next=sC (qh a)->∀ j,j<4->au none (.ptr h.next j) h'=(qh a)[j]?:=fun h' hg j hj=>by rw [aj hg];rfl
 have f0:au none (.ptr h.next 0) H=some (I6 a.kind):=f H g0 0 (by omega);have f1:au none (.ptr h.next 1) H=some (.str a.name):=f H g0 1 (by omega);have f2:au none (.ptr h.next 2) H=some (dH a.t):=f H g0 2 (by omega);have f3:au none (.ptr h.next 3) H=some (.bool a.to):=f H g0 3 (by omega);have atH:=p.at_.ext e1;have T4:=p.done.but (e1.but N);have Nl:=p.rat.ext e1;have Nn:gC ah 2 H wv W:=p.C8.agree (fun b hb=>e1.get b (p.C8.lt hb)) e1.next
 obtain ⟨n,hns,nn1,sK,_⟩:=iL p.ok.valid;simp only [aO,f0,cy];by_cases k1:a.kind=1
 ·simp only [fh k1,aL,aO,f1,f2]
  have akf:(s.aA.l.length:Int)<=jh (fe a.name (a.t.l.length:Int)) all.aA.l↔SI rules.l a.name a.t.l.length:=by
   rw [abL p.ok p.run,c.copy,Ys]
  have hnr:sr.size=(n:Int):=by rw [p.V1.size,hns]
  refine af (P4 atH c.abH p.ok p.run hns (by unfold cw;omega) (fun hw h2 x2=>?_) fun hw h2 x2=>?_)
  ·have gg:=x2.at g0 (by omega);have q1:au none (.ptr h.next 1) h2=some (.str a.name):=f h2 gg 1 (by omega);have q2:au none (.ptr h.next 2) h2=some (dH a.t):=f h2 gg 2 (by omega);simp only [aO,q1,q2];refine af (Fp (Nl.ext x2) c.k8 p.okr hnr (by unfold cw;omega) (fun _ h3 x3=>?_) fun hd _ h3 x3 _=>?_)
   ·simp only [aO,cy,decide_true];have e3:=(e1.trans x2).trans x3;exact hK h3 (still h3 e3) (fun b hb _=>e3.get b hb) e3.next
   ·have:=akf.2 hd;omega
  ·have gg:=x2.at g0 (by omega);have q1:au none (.ptr h.next 1) h2=some (.str a.name):=f h2 gg 1 (by omega);have q2:au none (.ptr h.next 2) h2=some (dH a.t):=f h2 gg 2 (by omega);simp only [aO,q1,q2];refine af (Fp (Nl.ext x2) c.k8 p.okr hnr (by unfold cw;omega) (fun hd=>absurd (akf.1 hw) hd) fun _ out h3 x3 hrun=>?_);have an3:mD out all:=(c.run hrun).VH p.run p.V1
   have an4:iY n (ff n all) a.name a.t.l xa.l=iY n (ff n out) a.name a.t.l rules.l:=by
    rw [c.copy,Fs,BR an3.Qy]
   simp only [aO,an4,cy,decide_true];have e3:=(e1.trans x2).trans x3;exact hK h3 (still h3 e3) (fun b hb _=>e3.get b hb) e3.next
 simp only [eR k1,aK];by_cases k2:a.kind=2
 ·simp only [fh k2,aL];rcases eq_nil_or_concat dl with rfl|⟨l,ch,rfl⟩
  ·refine af (Jd atH T4 (by simp) c.xok c.abH p.ok p.run (fun _=>?_) fun l c' hlc=>by simp at hlc);simp only [aO];refine af (Jl Nl Nn p.a1 (by simp at hWl;simp [hWl]) (fun _=>?_) fun V w hV=>?_)
   ·simp only [aO,cy,decide_true];exact hK H (still H e1) (fun b hb _=>e1.get b hb) e1.next
   ·rw [hV] at hWl;simp at hWl
  ·rw [concat_eq_append] at T4 hl hWl p;have Qc:=p.Qc;refine af (Jd atH T4 (by omega) c.xok c.abH p.ok p.run (fun h=>by simp at h) fun l' c' hlc=>?_);obtain ⟨hl1,WG⟩:=append_inj' hlc rfl;subst hl1;simp only [List.cons.injEq,_root_.and_true] at WG;subst WG;obtain ⟨s0,s1,V,w,j,r,hV,hh,ok0,cho,an6,abM,aeW⟩:=Qc.Yn;obtain ⟨q,b1,b2,b3,b4,b5⟩:=abF ok0 cho an6 abM;refine ⟨j,q,b1,b2,b3,b4,fun s' wI h2 EM p' U4 run' at' ac5 abN aeX=>?_⟩;have m2:=abN.next
   have abJ:j6 rules M h2 sr wv:=Nl.agree (abN.get M Nl.lt (Ne.symm p.ne)) m2;have Qd:gC ah 2 h2 wv W:=Nn.agree (fun b hb=>abN.get b (Nn.lt hb) (fun e=>p.a2 (by rw [hb,e]))) m2;simp only [aO];refine af (Jl abJ Qd p.a1 (by rw [hWl];omega) (fun h=>by rw [hV] at h;simp at h) fun V' w' hV' h3 SJ an7 an8 abO abP=>?_);rw [hV] at hV';obtain ⟨hV1,hV2⟩:=append_inj' hV' rfl;subst hV1;simp only [List.cons.injEq,_root_.and_true] at hV2;subst hV2;have m3:=abO.next
   have ac6:=b5 s' p';simp only [aO,cy,decide_true];have aub:=atH.lt;have hNM:=p.ne;have a3':bR EM≠some M:=fun e=>p.a3 (aeX _ e);have at3:eA xa N h3 s' wI EM:=at'.agree (abO.get N (by omega) hNM) m3;have akh:gL N h3 EM l:=ac5.agree (fun b hb=>abO.get b (ac5.lt hb).2 (fun e=>a3' (by rw [hb,e]))) m3;have okw:dw rules.l w:=(c.runs.1 ok0).Ni aeW.size aeW.Qy;refine hK h3 ⟨s',wI,EM,l,w,SJ,V,⟨at3,akh,U4,run',an7,an8,okw,aeW.trans ac6.symm,hh.VH ac6,hNM,fun e=>p.a1 (abP _ e),fun e=>p.a2 (abP _ e),a3',fun b h5 h6=>p.a4 b (aeX b h5) (abP b h6)⟩,by rw [length_append] at hl;omega,.inl bN,.inl bM,fun b hb=>.inl (bD b (aeX b hb)),fun b hb=>.inl (bW b (abP b hb))⟩ (fun b hb hnB=>?_) (by have:=e1.next;omega);rw [abO.get b (by have:=e1.next;omega) (fun e=>hnB (by rw [e];exact bM)),abN.get b (by have:=e1.next;omega) (fun e=>hnB (by rw [e];exact bN)),e1.get b hb]
 simp only [eR k2,aK];by_cases k3:a.kind=3
 ·simp only [fh k3,aL];exact hK H (still H e1) (fun b hb _=>e1.get b hb) e1.next
 simp only [eR k3,aK,aO,f1,f2,f3];have X7:=VN p.V1 (nm:=a.name) (k:=(a.t.l.length:Int));refine af (VE atH T4 (by omega) c.xok c.abH p.ok p.run (by omega) (fun uI h2 x2=>?_) (fun r hr hin h2 x2=>?_) ?_)
 ·have gg:=x2.at g0 (by omega);have q1:au none (.ptr h.next 1) h2=some (.str a.name):=f h2 gg 1 (by omega);have q2:au none (.ptr h.next 2) h2=some (dH a.t):=f h2 gg 2 (by omega);have q3:au none (.ptr h.next 3) h2=some (.bool a.to):=f h2 gg 3 (by omega)
  have aki:sr.aA.l.find? (fe a.name (a.t.l.length:Int))=none:=by
   rw [uI] at X7
   cases hq:sr.aA.l.find? (fe a.name (a.t.l.length:Int)) with
   |none=>rfl
   |some q=>rw [hq] at X7;cases X7
  have Qd:gC ah 2 h2 wv W:=Nn.agree (fun b hb=>x2.get b (Nn.lt hb)) x2.next
  simp only [aO,q1,q2,q3];refine af (Eu (Nl.ext x2) Qd p.a1 (by omega) c.k8 p.okr (by omega) (fun _ h3 x3=>?_) (fun r hr=>by rw [aki] at hr;cases hr) fun j r _ hr=>by rw [aki] at hr;cases hr);have e3:=(e1.trans x2).trans x3;simp only [aO];refine af (gd (x:=none) (y:=none) rfl (by simp [Sl.l]) (fun f hf=>by simp [Sl.l] at hf) ?_);simp only [aO];refine af (gd (x:=none) (y:=none) rfl (by simp [Sl.l]) (fun f hf=>by simp [Sl.l] at hf) ?_);simp only [aO,cy,decide_true];exact hK h3 (still h3 e3) (fun b hb _=>e3.get b hb) e3.next
 ·have gg:=x2.at g0 (by omega);have q1:au none (.ptr h.next 1) h2=some (.str a.name):=f h2 gg 1 (by omega);have q2:au none (.ptr h.next 2) h2=some (dH a.t):=f h2 gg 2 (by omega);have q3:au none (.ptr h.next 3) h2=some (.bool a.to):=f h2 gg 3 (by omega);have an9:jN sr.size a.t.l=false:=by rw [p.V1.size];exact hin
  have Qd:gC ah 2 h2 wv W:=Nn.agree (fun b hb=>x2.get b (Nn.lt hb)) x2.next
  simp only [aO,q1,q2,q3];refine af (Eu (Nl.ext x2) Qd p.a1 (by omega) c.k8 p.okr (by omega) (fun uI=>by rw [uI,hr] at X7;cases X7) (fun r2 r7 _ h3 x3=>?_) fun j r2 _ _ _ wO=>by rw [an9] at wO;cases wO);have e3:=(e1.trans x2).trans x3;simp only [aO];refine af (gd (x:=none) (y:=none) rfl (by simp [Sl.l]) (fun f hf=>by simp [Sl.l] at hf) ?_);simp only [aO];refine af (gd (x:=none) (y:=none) rfl (by simp [Sl.l]) (fun f hf=>by simp [Sl.l] at hf) ?_);simp only [aO,cy,decide_true];exact hK h3 (still h3 e3) (fun b hb _=>e3.get b hb) e3.next
 ·intro j r w1 w2 w3 w4 w5 s1 abQ h5 dn1 fc gc p1' ok1 aeZ at1 Fq Qf abI hf1 hg1;have VZ:=find?_some w3;have mk:=Qf.next
  have hdn:∀ b,bR dn=some b->b<h.next:=fun b hb=>(p.done.lt hb).2
  have akd:=p.at_.lt;have abD:=p.rat.lt;have gg:h5.get h.next=sC (qh a):=by rw [Qf.get _ (by omega) (by omega) (fun hb=>by have:=hdn _ hb;omega)];exact g0
  have q1:au none (.ptr h.next 1) h5=some (.str a.name):=f h5 gg 1 (by omega);have q2:au none (.ptr h.next 2) h5=some (dH a.t):=f h5 gg 2 (by omega);have q3:au none (.ptr h.next 3) h5=some (.bool a.to):=f h5 gg 3 (by omega);have aob:j6 rules M h5 sr wv:=Nl.agree (Qf.get M Nl.lt (Ne.symm p.ne) p.a3) mk;have aoc:gC ah 2 h5 wv W:=Nn.agree (fun b hb=>Qf.get b (Nn.lt hb) (fun e=>p.a2 (by rw [hb,e])) (fun e=>p.a4 b e hb)) mk;simp only [aO,q1,q2,q3];refine af (Eu aob aoc p.a1 (by omega) c.k8 p.okr (by omega) (fun uI=>by rw [uI,w3] at X7;cases X7) (fun r2 _ wO=>by rw [p.V1.size,w5] at wO;cases wO) ?_);intro j2 r2 v1 v2 v3 v4 sr1 EA aft h6 wv1 fr gr aod aoe aof aog aoh akj T6 abR S3 hg2;have m6:=T6.next
  have akk:mD EA all:=(c.run aof).VH p.run p.V1;obtain ⟨q,qq1,qq2⟩:=p.V1.get w2
  have r7:bp r2=bp r:=by
   rw [v2,w3] at X7;simpa using X7
  have hjj:j2=j:=Nj p.okr.valid v1 qq1 (by
   have e1:r2.name=r.name:=congrArg (·.1) r7;have e2:q.name=r.name:=congrArg (·.1) qq2
   rw [e1,e2])
  subst hjj;rw [qq1] at v1;cases v1;have abM:mD sr1 s1:=Yp p.V1 qq1 w2 aod p1';have akl:mD aft abQ:=(c.run aog).VH aeZ abM;have hF:fc.l.map rL=fr.l.map rL:=by rw [hf1,S3,akl.Qy,akk.Qy]
  have hG:gc.l.map rL=gr.l.map rL:=by rw [hg1,hg2,akl.Qy,akk.Qy]
  obtain ⟨c1,c2⟩:=Qe ok1 aeZ hf1;obtain ⟨c3,c4⟩:=Qe p.ok p.run hg1;simp only [aO];refine af (gd hF c1 c2 ?_);simp only [aO];refine af (gd hG c3 c4 ?_);simp only [aO,cy,decide_true];have a3':bR dn1≠some M:=fun e=>by have:=abI _ e;omega
  have hN6:h6.get N=h5.get N:=T6.get N (by omega) p.ne p.a2;have abS:∀ b,bR dn1=some b->H.next<=b/\b<h5.next:=fun b hb=>⟨abI b hb,(Fq.lt hb).2⟩
  have hwv:∀ b,bR wv=some b->b<h.next:=fun b hb=>p.C8.lt hb
  have akm:=Fq.agree (h':=h6) (fun b hb=>T6.get b (Fq.lt hb).2 (fun e=>a3' (by rw [hb,e])) (fun e=>by have:=abS b hb;have:=hwv b e;omega)) m6;refine hK h6 ⟨s1,abQ,dn1,_,sr1,wv1,W++[sr],⟨at1.agree hN6 m6,akm,ok1,aeZ,aoh,akj,aoe,abM,?_,p.ne,fun e=>by have:=abR _ e;omega,fun e=>by have:=abR _ e;omega,a3',fun b h7 h8=>by have:=(abS b h7).2;have:=abR b h8;omega⟩,by simp;omega,.inl bN,.inl bM,fun b hb=>.inr ⟨by have:=(abS b hb).1;omega,by have:=(abS b hb).2;omega⟩,fun b hb=>.inr ⟨by have:=abR b hb;omega,akj.lt hb⟩⟩ (fun b hb hnB=>?_) (by omega)
  ·exact .step p.Qc p.ok ⟨w2,VZ,w4,w5,rfl⟩ p1' (mD.refl _) p.V1
  ·rw [T6.get b (by omega) (fun e=>hnB (by rw [e];exact bM)) (fun e=>hnB (bW b e)),Qf.get b (by omega) (fun e=>hnB (by rw [e];exact bN)) (fun e=>hnB (bD b e)),e1.get b hb]
theorem Kn{rules:Sl aI}{s:ct}{Jm:Sl Ge}(mP:∀ r ∈ rules.l,r.ok)(oP:s.ok)(akn:Jm.l.length<=cw/\∀ a ∈ Jm.l,a.ok):Sem TP 8 [gm rules,.agg (ah s),eAc Jm] Heap.empty WK:=by
 refine F.Aq ?_;rw [F.Bv];simp only [cD (bU s),dr,aZ];have g0:(Heap.empty.alloc (.cells (ah s))).get 0=sC (ah s):=ak _ _;have gn:(Heap.empty.alloc (.cells (ah s))).next=1:=rfl
 generalize (Heap.empty.alloc (.cells (ah s)))=H at g0 gn ⊢;have l0:∀ h',aV H h'->au (some 2) (.ptr 0 0) h'=some (.agg (ah s)):=fun h' x=>eM (x.at g0 (by omega));simp only [l0 H (aV.refl H),dr];refine af (dD mP oP fun b hb=>?_);simp only [aO]
 cases b with
 |false=>
  simp only [Bool.not_false,aL];refine af (zN ?_);simp only [aO];rfl
 |true=>
 have iX:=hb rfl;simp only [Bool.not_true,aK];refine af (iI akn.1 fun b2 hb2=>?_)
 cases b2 with
 |false=>
  simp only [aO,Bool.not_false];refine af (zN ?_);simp only [aO];rfl
 |true=>
 obtain ⟨fw1,fw2⟩:=hb2 rfl;simp only [aO,Bool.not_true,l0 H (aV.refl H)];refine af (Ym mP iX oP (fun e he h1 x1=>?_) fun ho xa s1 abQ N h1 a1 a2 a3 a4 a5 a6 a7 a8=>?_)
 ·simp only [aO,l0 h1 x1];refine af (bS mP iX oP (fun e2 he2=>?_) fun ho=>absurd ho (C7 he).2);obtain rfl:=PS he he2;simp only [aO,cy,eR (C7 he).1,Bool.not_false,decide_true,Yo];refine af (zN ?_);simp only [aO];rfl
 have c:tU rules xa:=⟨a1,mP,iX⟩
 simp only [aO,l0 h1 a7];refine af (bS mP iX oP (fun e2 he2=>absurd ho (C7 he2).2) fun _=>?_);simp only [aO,cy,decide_true,Bool.not_true,abx,l0 h1 a7];have m1:=a7.next
 refine af (VM fun M h2 x2 hM rat=>?_);have m2:=x2.next
 have akd:=a6.lt;have Da:pz rules xa (fun b=>b=N\/b=M) h2 N M 0:=⟨s1,abQ,.ai,[],s,.ai,[],⟨a6.ext x2,.nil,a4,a5,rat,.nil,ho,⟨a2.symm,a3.symm⟩,.nil,by omega,(fun e=>by cases e),(fun e=>by cases e),(fun e=>by cases e),(fun b e=>by cases e)⟩,dK _,.inl rfl,.inr rfl,(fun b e=>by cases e),(fun b e=>by cases e)⟩
 simp only [aO];refine af (Da.clone (by omega) fun N2 h3 x3 SK=>?_);simp only [aO];refine af (SK.mono fun o h4 ho4=>?_);obtain ⟨M2,rfl,x4,Ay⟩:=bO.1 ho4;simp only [aO];have x24:=x3.trans x4;have YJ:pz rules xa (fun b=>b=N\/b=M) h4 N M 0:=Da.gG (fun b hb _=>x24.get b hb) x24.next
 have abD:=rat.lt;have m4:=x24.next
 have np:∀ c o:Nat,qE (.pointer 78) (.ptr c o) .eZ=some bT:=fun _ _=>rfl;have ep:∀ c o:Nat,jC (.pointer 78) (.ptr c o) .eZ=some bF:=fun _ _=>rfl;have ld:∀ {i:Nat} {a:Ge},Jm.l[i]?=some a->∀ j,j<4->∀ h,au none (.dL (Jm.l.flatMap qh) (i*4+j)) h=(qh a)[j]?:=fun hv j hj h=>dU z8 hv hj
 refine aB 0 Jm.l.length (zero_le _) (fun i e h=>∃ (N1 M1 N2 M2:Nat) (B1 B2:Nat->Prop),pz rules xa B1 h N1 M1 i/\pz rules xa B2 h N2 M2 i/\(∀ b,B1 b->b<h.next)/\(∀ b,B2 b->b<h.next)/\(∀ b,B1 b->¬ B2 b)/\e 2=eAc Jm/\e 7 = .ptr N1 0/\e 10 = .ptr M1 0/\e 11 = .ptr N2 0/\e 12 = .ptr M2 0/\e 13=I6 (i:Int))
  ⟨N,M,N2,M2,_,_,YJ,Ay,fun b hb=>by rcases hb with rfl|rfl<;>omega,fun b hb=>hb.2,fun b h1 h2=>by rcases h1 with rfl|rfl<;>omega,rfl,rfl,rfl,rfl,rfl,rfl⟩ ?_ ?_
 ·rintro i e h _ hi ⟨N1,M1,N2,M2,B1,B2,p1,p2,b1,b2,bb,e2,e7,iJ,l9,uq,qC⟩ K' hn hx hr hp;obtain ⟨a,hv⟩:=dM hi;have wu:=(fw2 a (ij hv)).2
  have J0:∀ (E:Env) (h:Heap) (N1 M1 N2 M2:Nat) (B1 B2:Nat->Prop),pz rules xa B1 h N1 M1 i->pz rules xa B2 h N2 M2 i->(∀ b,B1 b->b<h.next)->(∀ b,B2 b->b<h.next)->(∀ b,B1 b->¬ B2 b)->E 2=eAc Jm->E 7 = .ptr N1 0->E 10 = .ptr M1 0->E 11 = .ptr N2 0->E 12 = .ptr M2 0->E 13=I6 (i:Int)->F.di.J0 K' (sM E 108 h)=true:=by
   intro E h N1 M1 N2 M2 B1 B2 p1 p2 b1 b2 bb E2 E7 E10 E11 E12 E13;rw [F.di.Cx];simp only [E2,E7,E10,E13,aO,ep,aQ Jm hi,dB z8 hv];refine af (Yt c p1 (by omega) wu fun h5 q1 fr n5=>?_);have q2:=p2.gG (h':=h5) (fun b hb hB=>fr b hb fun h1=>bb b h1 hB) n5;simp only [aO,Bool.not_true];refine af (q1.now c fun x y h6 Tn hs x6 SK=>?_);simp only [aO];refine af (SK.mono fun o h7 ho7=>?_);obtain ⟨y',rfl,x7,ae0⟩:=bO.1 ho7;simp only [aO];refine af (C9 ae0 hs ?_);simp only [aO,Bool.not_true,aE hi akn.1];have x57:=x6.trans x7;refine hn _ _ ⟨N1,M1,N2,M2,_,B2,q1.gG (fun b hb _=>x57.get b hb) x57.next,(q2.mono (le_succ i)).gG (fun b hb _=>x57.get b hb) x57.next,fun b hb=>?_,fun b hb=>?_,fun b h1 h2=>?_,E2,E7,E10,E11,E12,rfl⟩
   ·have:=x57.next
    rcases hb with hb|hb
    ·have:=b1 b hb;omega
    ·omega
   ·have:=x57.next
    have:=b2 b hb;omega
   ·rcases h1 with h1|h1
    ·exact bb b h1 h2
    ·have:=b2 b h2;omega
  rw [F.di.aP];simp only [e2,e7,iJ,qC,aO,aU hi,aQ Jm hi,show au none (.dL (Jm.l.flatMap qh) (i*4)) h=some (I6 a.kind) from (by have:=ld hv 0 (by omega) h;rw [Nat.add_zero] at this;rw [this];rfl),cy];by_cases k3:a.kind=3
  ·simp only [fh k3,aL];refine af (p1.clone (by omega) fun N3 h3 x3 SK=>?_);simp only [aO];refine af (SK.mono fun o h4 ho4=>?_);obtain ⟨M3,rfl,x4,p3⟩:=bO.1 ho4;simp only [aO];have W3:=x3.trans x4;have m34:=W3.next
   refine J0 _ h4 N3 M3 N1 M1 _ B1 p3 (p1.gG (fun b hb _=>W3.get b hb) W3.next) (fun b hb=>hb.2) (fun b hb=>by have:=b1 b hb;omega) (fun b h1 h2=>by have:=b1 b h2;omega) ?_ ?_ ?_ ?_ ?_ ?_
   ·exact e2
   ·rfl
   ·rfl
   ·rfl
   ·rfl
   ·exact qC
  ·simp only [eR k3,aK];refine J0 _ h N1 M1 N2 M2 B1 B2 p1 p2 b1 b2 bb ?_ ?_ ?_ ?_ ?_ ?_
   ·exact e2
   ·exact e7
   ·exact iJ
   ·exact l9
   ·exact uq
   ·exact qC
 ·rintro e h ⟨N1,M1,N2,M2,B1,B2,p1,p2,b1,b2,bb,e2,e7,iJ,l9,uq,qC⟩ K' hx;rw [F.di.aP];simp only [e2,qC,aO,aR];rw [hx,F.di.aC];simp only [kC,reduceEqDiff,reduceIte,l9,uq,np,aO,reduceEqDiff,reduceIte];refine af (p2.now c fun x y h6 Tn hs x6 SK=>?_);simp only [aO];refine af (SK.mono fun o h7 ho7=>?_);obtain ⟨y',rfl,x7,ae0⟩:=bO.1 ho7;simp only [aO];refine af (C9 ae0 hs ?_);simp only [aO];refine af (zN ?_);simp only [aO];rfl
end
end Go.AM