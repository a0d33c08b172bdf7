/- Parts of the proof. Conditions: none. -/
import Derived.Test.YtfdanacohcffmaaGreatKf19
import Derived.Test.YtfdanacohcffmaaGreatKf26
set_option linter.unusedSimpArgs false
set_option linter.unusedVariables false
namespace Go.AM
open List Nat Bool Option
open Go Go.Proofs
noncomputable section
variable {rs:List aP} {K:Out->Heap->Bool} {s:cM} {m:eF} {h:Heap} {r:aP} {n k i M B P S:Nat} {ks:List b6} {rules:Sl aP} {c:eP} {D0:DB} {nm x:b6} {lv:ey.Lv}
theorem ei.kL{D:DB}{lo c:Nat}(b:ei D h B lo)(hc:c<lo)(Om:c≠B)(x:j5):ei D (h.set c x) B lo:=by
 obtain ⟨es,ck,m,e1,e2,e3⟩:=b.ex;refine ⟨⟨es,ck,m,by rw [Heap.aK,if_neg (Ne.symm Om)];exact e1,e2,e3⟩,fun nm p hp=>?_,b.inj,by rw [Heap.bl];exact b.lt⟩;obtain ⟨k1,k2,k3,k4⟩:=b.FU nm p hp;exact ⟨k1,by rw [Heap.bl];exact k2,k3,by rw [Heap.aK,if_neg (by omega)];exact k4⟩
theorem Gs:∀ (l:List (b6×Int)) (m m':eF),uq l m=some m'->∀ x k,m'.find x=some k↔((x,k) ∈ l\/m.find x=some k)
 |[],m,m',h,x,k=>by cases h;simp
 |p :: l,m,m',h,x,k=>by
  have fu:=uW m p.1 x p.2
  have hs:RN m p=some (m.rD p.1 p.2)/\∀ j,m.find p.1=some j->j=p.2:=by
   rw [uq] at h;unfold RN at h ⊢
   cases hf:m.find p.1 with
   |none=>simp
   |some j=>
    rw [hf] at h;by_cases e:j=p.2
    ·simp [e]
    ·simp [e] at h
  rw [uq,hs.1] at h;rw [Gs l _ m' h x k,fu];by_cases e:x=p.1
  ·rw [if_pos e,mem_cons];subst e;constructor
   ·rintro (h1|h1)
    ·exact .inl (.inr h1)
    ·cases h1;exact .inl (.inl rfl)
   ·rintro ((h1|h1)|h1)
    ·exact .inr (by rw [<- h1])
    ·exact .inl h1
    ·exact .inr (by rw [hs.2 k h1])
  ·rw [if_neg e,mem_cons];constructor
   ·rintro (h1|h1)
    ·exact .inl (.inr h1)
    ·exact .inr h1
   ·rintro ((h1|h1)|h1)
    ·exact absurd (congrArg Prod.fst h1) e
    ·exact .inl h1
    ·exact .inr h1
theorem kz(h:dS rs []=some m)(x:b6)(k:Int):m.find x=some k↔(x,k) ∈ cB rs:=by
 rw [rV] at h;split at h
 ·rw [Gs _ _ _ h];simp [eF.find]
 ·cases h
theorem ou(hr:r ∈ rs):(r.name,(r.args.l.length:Int)) ∈ cB rs:=mem_flatMap.2 ⟨r,hr,mem_cons_self⟩
theorem ox{xs:List b6}(h:mI nm xs=true):xs.length<=12:=by
 unfold mI at h;simp only [and_eq_true,decide_eq_true_eq] at h;omega
theorem xz(n1:1<=n){j:Nat}(h:i<=j):n ^ i<=n ^ j:=Nat.pow_le_pow_right n1 h
set_option maxHeartbeats 1000000 in
theorem Fl{SB:Nat}(hn:s.size=(n:Int))(n1:1<=n)(xG:n<=64)(jN:∀ r ∈ rules.l,r.mC)(sJ:rules.l.length<=60)(I8:∀ r ∈ rules.l,(varsOf r).length<=12){e0:Env}
  (hSB:h.get SB=some (.cells (ak s))) (WY:SB<h.next) (q3:e0 3 = .ptr SB 0) (q7:e0 7 = .ptr P 0) (q17:e0 17 = .ptr S 0) (aeZ:e0 134=an aO 3 rules) (ae0:e0 135 = .int .i64 (rules.l.length:Int)) (ae1:e0 136 = .int .i64 0)
  (err:(∃ r ∈ rules.l,65536<n ^ (varsOf r).length)->∀ h',bu h h'->K (.ret (.tuple [.ez,.ez,.int .i64 5])) h'=true)
  (done:(∀ r ∈ rules.l,n ^ (varsOf r).length<=65536)->∀ (e:Env) h',bu h h'->e 3 = .ptr SB 0->e 7 = .ptr P 0->e 17 = .ptr S 0->F.ay.YW K (.exit 6) ⟨e,198,[],h'⟩=true) :
  bY (EV F.ay.L3) ⟨e0,198,[],h⟩ (F.ay.YW K)=true:=by
 have hbig:rules.l.length<=cN:=by unfold cN;omega
 refine aE 0 rules.l.length (zero_le _) (fun i e h'=>bu h h'/\(∀ r ∈ rules.l.take i,n ^ (varsOf r).length<=65536)/\e 3 = .ptr SB 0/\e 7 = .ptr P 0/\e 17 = .ptr S 0/\e 134=an aO 3 rules/\e 135 = .int .i64 (rules.l.length:Int)/\e 136 = .int .i64 (i:Int))
  ⟨bu.refl _,fun r hr=>(by cases hr),q3,q7,q17,aeZ,ae0,ae1⟩ ?_ ?_
 ·rintro i e h' _ hi ⟨hx,lu,e3,e7,uf,LF,JP,JQ⟩ K' A4 fK hr hp;have hv:rules.l[i]?=some rules.l[i]:=ep hi;generalize rules.l[i]=r at hv;have og:=ig hv;have abY:=I8 r og;obtain ⟨H,Fc,g1,go,gn⟩:=cr (h:=h') (zs:=[.str [],.ax,.ax]) (cs:=aO r) (n:=3) rfl rfl (kr r);have xH:bu h H:=hx.trans ⟨by omega,fun b hb=>go b (by omega)⟩;have pSB:H.get SB=some (.cells (ak s)):=by rw [xH.get _ WY];exact hSB
  have lz:ag none (.ptr SB 0) H=some (.int .i64 (n:Int)):=by rw [aj pSB,<- hn];rfl
  rw [F.ay.Vd];simp only [LF,JP,JQ,aR,reduceAdd,reduceEqDiff,reduceIte,bh hi,aW rules hi,dm gE hv,Fc];simp only [aj g1,aO,rO,aq];refine ah (de (jN r og) fun x jO=>?_);simp only [aR,reduceAdd,reduceEqDiff,reduceIte];rw [jO];have Vu:(varsOf r).length<=cN:=by unfold cN;omega
  refine aE 0 (varsOf r).length (zero_le _) (fun j e h2=>h2=H/\n ^ j<=65536/\e 3 = .ptr SB 0/\e 7 = .ptr P 0/\e 17 = .ptr S 0/\e 134=an aO 3 rules/\e 135 = .int .i64 (rules.l.length:Int)/\e 136 = .int .i64 (i:Int)/\e 23 = .int .i64 ((n ^ j:Nat):Int)/\e 142 = .int .i64 ((varsOf r).length:Int)/\e 143 = .int .i64 (j:Int))
   ⟨rfl,by simp,e3,e7,uf,LF,JP,JQ,rfl,rfl,rfl⟩ ?_ ?_
  ·rintro j e h2 _ hj ⟨rfl,RH,e3,e7,uf,LF,JP,JQ,Vv,Ui,Uj⟩ K2 u6 gm rY F5;have wI:n ^ (j+1)=n ^ j*n:=Nat.pow_succ n j;have hmul:n ^ j*n<=65536*64:=Nat.mul_le_mul RH xG;have hm:((n ^ j:Nat):Int)*(n:Int)=((n ^ (j+1):Nat):Int):=by rw [wI,Int.natCast_mul]
   have hmm:aG .mul (.int .i64 ((n ^ j:Nat):Int)) (.int .i64 (n:Int))=some (.int .i64 ((n ^ (j+1):Nat):Int)):=by rw [uL (by rw [hm];omega) (by rw [hm];omega),hm]
   rw [F.ay.Ve];simp only [e3,Vv,Ui,Uj,aR,reduceAdd,reduceEqDiff,reduceIte,bh hj,lz,hmm];by_cases hbg:65536<n ^ (j+1)
   ·simp only [fE (by omega:(65536:Int)<((n ^ (j+1):Nat):Int)),aL];rw [rY,F.ay.Sx,hr,F.ay.Sw];simp only [bO,reduceEqDiff,reduceIte];exact err ⟨r,og,by have:=xz n1 (show j+1<=(varsOf r).length by omega);omega⟩ _ xH
   ·simp only [eT (by omega:¬ (65536:Int)<((n ^ (j+1):Nat):Int)),aJ,Uj,aI hj Vu,aq];exact u6 _ _ ⟨rfl,by omega,e3,e7,uf,LF,JP,JQ,rfl,Ui,rfl⟩
  ·rintro e h2 ⟨rfl,RH,e3,e7,uf,LF,JP,JQ,Vv,Ui,Uj⟩ K2 gm;rw [F.ay.Ve];simp only [Ui,Uj,aR,reduceAdd,reduceEqDiff,reduceIte,aX];rw [gm,F.ay.PZ];simp only [aR,reduceAdd,reduceEqDiff,reduceIte,JQ,aI hi hbig];refine A4 _ _ ⟨xH,fun q hq=>?_,e3,e7,uf,LF,JP,rfl⟩;rw [take_add_one,hv] at hq;rcases mem_append.1 hq with hq|hq
   ·exact lu q hq
   ·simp only [toList_some,mem_singleton] at hq;subst hq;exact RH
 ·rintro e h' ⟨hx,lu,e3,e7,uf,LF,JP,JQ⟩ K' fK;rw [kC (dL _)] at lu;rw [F.ay.Vd];simp only [JP,JQ,aR,reduceAdd,reduceEqDiff,reduceIte,aX];rw [fK];exact done lu _ h' hx e3 e7 uf
set_option maxHeartbeats 1000000 in
theorem Fm{SB A IT:Nat}{esA:List Entry}{ckA:Nat}{hR:AV}(hn:s.size=(n:Int))(n1:1<=n)(xG:n<=64)(I8:∀ r ∈ rules.l,r.args.l.length<=12)(jL:dS rules.l []=some m){e0:Env}
  (hS:h.get S=some (.cells [.int .i64 (n:Int),.map B])) (hSB:h.get SB=some (.cells (ak s))) (hP:h.get P=some (.cells [hR,.map A,.map M])) (hA:h.get A=some (.map esA ckA)) (hmA:LB esA ckA m) (hl:fC (bE rules.l) h M ks lv)
  (hB:ei (fun _=>none) h B (IT+1)) (hIT:∀ es ck,h.get M=some (.map es ck)->h.get IT=some (.fW (some M) ck [] ck)) (akd:h.next=IT+1) (o1:S<IT) (o2:SB<IT) (o3:P<IT) (o4:A<IT) (o5:M<IT) (o6:B<IT) (b1:S≠B) (b2:SB≠B) (b3:P≠B) (b4:A≠B) (b5:M≠B)
  (q0:e0 0=an aO 3 rules) (q3:e0 3 = .ptr SB 0) (q7:e0 7 = .ptr P 0) (q17:e0 17 = .ptr S 0) (ae4:e0 108 = .ptr IT 0)
  (err:(∃ r ∈ rules.l,4096<n ^ r.args.l.length)->∀ h',(∀ c,c<IT->c≠B->h'.get c=h.get c)->K (.ret (.tuple [.ez,.ez,.int .i64 5])) h'=true)
  (done:∀ (e:Env) h' D,(∀ r ∈ rules.l,n ^ r.args.l.length<=4096)->ei D h' B (IT+1)->(∀ r ∈ rules.l,∃ b,D r.name=some (b,replicate (n ^ r.args.l.length) false))->(∀ nm p,D nm=some p->nm ∈ bE rules.l)->(∀ c,c<IT->c≠B->h'.get c=h.get c)->IT<h'.next ->
   e 0=an aO 3 rules->e 3 = .ptr SB 0->e 7 = .ptr P 0->e 17 = .ptr S 0->F.ay.y8 K (.exit 4) ⟨e,198,[],h'⟩=true) :
  bY (EV F.ay.L2) ⟨e0,198,[],h⟩ (F.ay.y8 K)=true:=by
 obtain ⟨es,ck,ml,z1,z2,z3,z4,z5⟩:=hl.ex;have w0:=hIT es ck z1;have QU:∀ r ∈ rules.l,m.find r.name=some (r.args.l.length:Int):=fun r hr=>(kz jL _ _).2 (ou hr)
 refine zS es (fun seen e hh=>∃ D,ei D hh B (IT+1)/\(∀ en ∈ es,en.2.2 ∈ seen->∀ r ∈ rules.l,en.1 = .str r.name->n ^ r.args.l.length<=4096/\∃ b,D r.name=some (b,replicate (n ^ r.args.l.length) false))/\(∀ nm p,D nm=some p->nm ∈ bE rules.l) /\
   hh.get IT=some (.fW (some M) ck seen ck)/\(∀ c,c<IT->c≠B->hh.get c=h.get c)/\IT<hh.next/\e 0=an aO 3 rules/\e 3 = .ptr SB 0/\e 7 = .ptr P 0/\e 17 = .ptr S 0/\e 108 = .ptr IT 0)
  ⟨_,hB,fun en _ su=>(by cases su),fun nm p hp=>(by cases hp),w0,fun _ _ _=>rfl,by omega,q0,q3,q7,q17,ae4⟩ ?_
 rintro seen e hh ⟨D,hD,Gt,Vw,w3,wf,wn,e0',e3,e7,uf,W6⟩ K' QA hex TX abF;have hM:hh.get M=some (.map es ck):=by rw [wf M o5 b5];exact z1
 rw [F.ay.mG];simp only [W6];refine DF w3 hM z3 (by omega) (fun lY=>?_) (fun en su hns Cs=>?_)
 ·simp only [G2,aR,reduceAdd,reduceEqDiff,reduceIte];rw [hex]
  have hev:∀ r ∈ rules.l,∃ en ∈ es,en.1 = .str r.name:=fun r hr=>by
   have h1:ml.find r.name=some (lv r.name:Int):=by rw [z5,if_pos (show r.name ∈ bE rules.l from List.mem_map_of_mem hr)]
   obtain ⟨en,su,h2,_⟩:=z2.TV _ (qH h1);exact ⟨en,su,h2⟩
  refine done _ hh D (fun r hr=>?_) hD (fun r hr=>?_) Vw wf wn e0' e3 e7 uf
  ·obtain ⟨en,su,h2⟩:=hev r hr;exact (Gt en su (lY en su) r hr h2).1
  ·obtain ⟨en,su,h2⟩:=hev r hr;exact (Gt en su (lY en su) r hr h2).2
 obtain ⟨p,Gd,MT,pH⟩:=z2.mem en su;have hph:p.1 ∈ bE rules.l:=(hl.mem p.1).1 (by rw [<- z4];exact List.mem_map_of_mem Gd);obtain ⟨r,og,Ej⟩:=mem_map.1 hph;have vf:∀ c,c<IT->c≠B->(hh.set IT (.fW (some M) ck (seen++[en.2.2]) ck)).get c=h.get c:=fun c hc Om=>by rw [Heap.aK,if_neg (by omega)];exact wf c hc Om
 have v3:(hh.set IT (.fW (some M) ck (seen++[en.2.2]) ck)).get IT=some (.fW (some M) ck (seen++[en.2.2]) ck):=by rw [Heap.aK,if_pos rfl]
 have vn:(hh.set IT (.fW (some M) ck (seen++[en.2.2]) ck)).next=hh.next:=Heap.bl _ _ _
 have vD:=hD.kL (c:=IT) (by omega) (by omega) (.fW (some M) ck (seen++[en.2.2]) ck);simp only [G2,nV,uN,aq,cC,aL,Cs,e3,e7,uf,W6];clear Cs;generalize (hh.set IT (.fW (some M) ck (seen++[en.2.2]) ck))=H at vf v3 vn vD ⊢;have pSB:H.get SB=some (.cells (ak s)):=by rw [vf _ o2 b2];exact hSB
 have pS:H.get S=some (.cells [.int .i64 (n:Int),.map B]):=by rw [vf _ o1 b1];exact hS
 have pP:H.get P=some (.cells [hR,.map A,.map M]):=by rw [vf _ o3 b3];exact hP
 have pA:H.get A=some (.map esA ckA):=by rw [vf _ o4 b4];exact hA
 have lz:ag none (.ptr SB 0) H=some (.int .i64 (n:Int)):=by rw [aj pSB,<- hn];rfl
 have QT:dR .string (.int .i64 0) false (.map A) (.str r.name) H=some (.int .i64 (r.args.l.length:Int)):=by rw [tV pA hmA.1,QU r og];rfl
 have HA:=I8 r og;simp only [aR,reduceAdd,reduceEqDiff,reduceIte,MT,<- Ej,lz,ct,aj pP,QT];refine ah (ug n1 xG (by unfold cN;omega) ?_);unfold N8;rw [if_neg (by omega)];by_cases Ff:4096<n ^ r.args.l.length
 ·rw [if_pos Ff];simp only [aR,reduceAdd,reduceEqDiff,reduceIte,cA];simp only [show (!decide ((5:Int)=0))=true from rfl,aL];rw [TX,F.ay.yw];simp only [bO,reduceEqDiff,reduceIte];exact err ⟨r,og,Ff⟩ _ vf
 ·rw [if_neg Ff];obtain ⟨h2,hu,hD2,VU,Qa⟩:=vD.add (by omega) (n ^ r.args.l.length) r.name;simp only [aR,reduceAdd,reduceEqDiff,reduceIte,cA];simp only [show (!decide ((0:Int)=0))=false from rfl,aJ,ct,aR,reduceAdd,reduceEqDiff,reduceIte,aj pS,MM (show n ^ r.args.l.length<=1000000 by omega),hu];refine QA en su hns _ _ ⟨kX D r.name H.next _,hD2,fun Vp Jy On q hq Ek=>?_,fun nm p' Cm=>?_,by rw [VU _ (by omega) (by omega)];exact v3,fun c hc Om=>by rw [VU c (by omega) Om];exact vf c hc Om,by omega,e0',e3,e7,uf,W6⟩
  ·by_cases e:q.name=r.name
   ·have h1:=QU q hq;rw [e,QU r og] at h1;have h2:r.args.l.length=q.args.l.length:=by have:=Option.some.inj h1;omega
    exact ⟨by rw [<- h2];omega,H.next,by rw [e,qR,h2]⟩
   ·rcases mem_append.1 On with On|On
    ·obtain ⟨a1,b,a2⟩:=Gt Vp Jy On q hq Ek;exact ⟨a1,b,by rw [B0 e];exact a2⟩
    ·rw [mem_singleton] at On
     have hee:Vp=en:=by
      have hb:=z3.nodup;obtain ⟨i,hi⟩:=mem_iff_getElem?.1 su;obtain ⟨j,hj⟩:=mem_iff_getElem?.1 Jy;have vr:(es.map (·.2.2))[i]?=some en.2.2:=by rw [getElem?_map,hi];rfl
      have GW:(es.map (·.2.2))[j]?=some en.2.2:=by rw [getElem?_map,hj,<- On];rfl
      have hij:=oh hb vr GW;subst hij;rw [hi] at hj;exact (Option.some.inj hj).symm
     rw [hee,MT] at Ek;injection Ek with h3;exact absurd (h3.symm.trans Ej.symm) e
  ·by_cases e:nm=r.name
   ·rw [e];exact List.mem_map_of_mem og
   ·rw [B0 e] at Cm;exact Vw nm p' Cm
def Ki(rs:List aP)(s:cM):Prop:=(∃ p ∈ cB rs,p.1 ∉ bE rs/\s.aC.l.find? (gv p.1 p.2)=none)\/∃ r ∈ s.aC.l,r.name ∈ bE rs
def M0(rs:List aP)(s:cM):Prop:=8<s.aC.l.length+(eG rs).length\/(∃ r ∈ rs,4096<s.size.toNat ^ r.args.l.length)\/∃ r ∈ rs,65536<s.size.toNat ^ (varsOf r).length
structure zZ (n:Nat) (rs:List aP) (s:cM) (D:DB):Prop where
 rel:∀ r ∈ s.aC.l,∃ b,D r.name=some (b,bitsOf n r.arity.toNat r.aN.l)
 head:∀ r ∈ rs,∃ b,D r.name=some (b,replicate (n ^ r.args.l.length) false)
 only:∀ nm p,D nm=some p->nm ∈ bE rs\/∃ r ∈ s.aC.l,r.name=nm
structure LG (n P A M S B lo:Nat) (rules:Sl aP) (ks:List b6) (lv:ey.Lv) (D0:DB) (m:eF) (h:Heap):Prop where
 hP:h.get P=some (.cells [an aO 3 rules,.map A,.map M])
 hl:fC (bE rules.l) h M ks lv
 BV:ks.Nodup
 jL:dS rules.l []=some m
 hA:∃ es ck,h.get A=some (.map es ck)/\LB es ck m
 hS:h.get S=some (.cells [.int .i64 (n:Int),.map B])
 hD:ei D0 h B lo
 ord:A<M/\M<P/\P<B/\B<S/\S<lo/\lo<=h.next
theorem M1(hl:fC (bE rs) h M ks lv)(BV:ks.Nodup):ks.length=(eG rs).length:=by
 have h1:(eG rs).Nodup:=by
  have:=pV rs;unfold r9 at this;refine this.imp fun {a b} h e=>?_;rw [e,nY] at h;cases h
 have h2:=ey.qs BV (m:=eG rs) fun x hx=>(fS rs).2 ((hl.mem x).1 hx);have h3:=ey.qs h1 (m:=ks) fun x hx=>(hl.mem x).2 ((fS rs).1 hx);omega
set_option maxHeartbeats 2000000 in
theorem ay{rules:Sl aP}{s:cM}(lu:∀ r ∈ rules.l,r.ok)(jN:∀ r ∈ rules.l,r.mC)(lU:s.ok){h:Heap}{K:Out->Heap->Bool}
  (h1:(¬ kW rules.l\/cG s=false)->∀ h',(∀ b,b<h.next->h'.get b=h.get b)->K (.ret (.tuple [.ez,.ez,.int .i64 1])) h'=true)
  (h4:kW rules.l->cG s=true->Ki rules.l s->∀ h',(∀ b,b<h.next->h'.get b=h.get b)->K (.ret (.tuple [.ez,.ez,.int .i64 4])) h'=true)
  (h5:kW rules.l->cG s=true->¬ Ki rules.l s->M0 rules.l s->∀ h',(∀ b,b<h.next->h'.get b=h.get b)->K (.ret (.tuple [.ez,.ez,.int .i64 5])) h'=true)
  (h0:kW rules.l->cG s=true->¬ Ki rules.l s->¬ M0 rules.l s->∀ h' (n:Nat) P A M S B lo ks k D0 m,s.size=(n:Int)->1<=n->n<=64->ey.di (bK rules.l) (ey.iter (bK rules.l) k) ->
   LG n P A M S B lo rules ks (ey.iter (bK rules.l) k) D0 m h'->zZ n rules.l s D0->(∀ b,b<h.next->h'.get b=h.get b)->h.next<=A->K (.ret (.tuple [.ptr P 0,.ptr S 0,.int .i64 0])) h'=true) :
  Sem TP 58 [an aO 3 rules,.agg (ak s)] h K:=by
 refine F.yz ?_;rw [F.zF];simp only [cT (bS s),aq];have g0:(h.alloc (.cells (ak s))).get h.next=some (.cells (ak s)):=aA _ _
 have gx:bu h (h.alloc (.cells (ak s))):=bu.alloc _ _;have gn:(h.alloc (.cells (ak s))).next=h.next+1:=rfl
 generalize (h.alloc (.cells (ak s)))=H0 at g0 gx gn ⊢;refine ah (Oj lu jN (fun hb h' hf=>?_) fun h' P A M ks k hg iP gP la BV RF WC m es ck jL gA W7 o1 o2 o3 hfr=>?_)
 ·simp only [aR,reduceAdd,reduceEqDiff,reduceIte,Bool.not_false];exact h1 (.inl hb) _ (fun b hb=>by rw [hf b (by omega),gx.get b hb])
 have p0:h'.get h.next=some (.cells (ak s)):=by rw [hfr _ (by omega)];exact g0
 have l0:ag (some 2) (.ptr h.next 0) h'=some (.agg (ak s)):=by rw [aj p0,bV (cs:=ak s) (n:=2) rfl]
 simp only [aR,reduceAdd,reduceEqDiff,reduceIte,Bool.not_true,l0];refine ah (dG lU ?_);simp only [aR,reduceAdd,reduceEqDiff,reduceIte]
 cases vg:cG s with
 |false=>simp only [Bool.not_false,aL];exact h1 (.inr vg) _ (fun b hb=>by rw [hfr b (by omega),gx.get b hb])
 |true=>
 obtain ⟨n,hn,n1,xG,h8⟩:=jA vg;have u6:s.size.toNat=n:=by omega
 specialize h4 hg vg;specialize h5 hg vg;specialize h0 hg vg;clear h1;have ab1:=hg.mC;have z6:=ji jL;obtain ⟨X7,ab2,hmN⟩:=id W7;have XU:mM .map (.map A) h'=some (.ptr h'.next 0,h'.alloc (.fW (some A) ck [] ck)):=by simp only [mM,gA]
 simp only [Bool.not_true,aJ,ct,aR,reduceAdd,reduceEqDiff,reduceIte,aj gP,XU];have lY:∀ p ∈ m,(p.1,p.2) ∈ cB rules.l:=fun p hp=>(kz jL p.1 p.2).1 (uX hmN hp)
 refine zS es (fun seen e hh=>(∀ en ∈ es,en.2.2 ∈ seen->∀ p ∈ m,en.1 = .str p.1->¬ (p.1 ∉ bE rules.l/\s.aC.l.find? (gv p.1 p.2)=none))/\hh.get h'.next=some (.fW (some A) ck seen ck)/\(∀ b,b<h'.next->hh.get b=h'.get b)/\h'.next<hh.next /\
   e 0=an aO 3 rules/\e 3 = .ptr h.next 0/\e 7 = .ptr P 0/\e 46 = .ptr h'.next 0)
  ⟨fun en _ su=>(by cases su),aA _ _,fun b hb=>by rw [Heap.aV,if_neg (by omega)],by rw [Heap.aM];omega,rfl,rfl,rfl,rfl⟩ ?_
 rintro seen e hh ⟨Gt,w3,wf,wn,e0,e3,e7,X9⟩ K' QA hex TX abF;rw [F.ay.aT];simp only [X9];refine DF w3 (by rw [wf A (by omega)];exact gA) ab2 (by omega) (fun ab3=>?_) (fun en su hns Cs=>?_)
 ·
  have ae6:¬ ∃ p ∈ cB rules.l,p.1 ∉ bE rules.l/\s.aC.l.find? (gv p.1 p.2)=none:=by
   rintro ⟨p,hp,hb⟩;have hf:=(kz jL p.1 p.2).2 hp;have Gd:=qH hf;obtain ⟨en,su,ae7,_⟩:=X7.TV _ Gd;exact Gt en su (ab3 en su) _ Gd ae7 hb
  simp only [G2,nV,aq,cC,aJ];rw [hex,F.ay.aF];have v0:hh.get h.next=some (.cells (ak s)):=by rw [wf _ (by omega)];exact p0
  have lr:ag none (.ptr h.next 1) hh=some (an aQ 3 s.aC):=by rw [aj v0];rfl
  simp only [aR,reduceAdd,reduceEqDiff,reduceIte,e3,lr]
  refine aE 0 s.aC.l.length (zero_le _) (fun i e h2=>(∀ r ∈ s.aC.l.take i,r.name ∉ bE rules.l)/\(∀ b,b<h'.next->h2.get b=h'.get b)/\h'.next<h2.next/\e 0=an aO 3 rules/\e 3 = .ptr h.next 0/\e 7 = .ptr P 0/\e 71=an aQ 3 s.aC/\e 72 = .int .i64 (s.aC.l.length:Int)/\e 73 = .int .i64 (i:Int))
   ⟨fun r hr=>(by cases hr),wf,wn,e0,e3,e7,rfl,rfl,rfl⟩ ?_ ?_
  ·rintro i e h2 _ hi ⟨HD,Kj,wn2,e0,e3,e7,e71,e72,e73⟩ K2 pH gm rY F5;have hv:s.aC.l[i]?=some s.aC.l[i]:=ep hi;generalize s.aC.l[i]=r at hv;obtain ⟨H,Fc,q1,qo,qn⟩:=cr (h:=h2) (zs:=[.str [],.int .i64 0,.ax]) (cs:=aQ r) (n:=3) rfl rfl (fT r);have pP:H.get P=some (.cells [an aO 3 rules,.map A,.map M]):=by rw [qo _ (by omega),Kj _ (by omega)];exact gP
   have hM:H.get M=h'.get M:=by rw [qo _ (by omega),Kj _ (by omega)]
   obtain ⟨esL,HV,mL,y1,y2,y3,y4,y5⟩:=la.ex;have QT:=rE (h:=H) (by rw [hM];exact y1) y2 r.name;have My:(mL.find r.name).isSome=decide (r.name ∈ bE rules.l):=by rw [y5];by_cases hh':r.name ∈ bE rules.l<;>simp [hh']
   have ln:ag none (.ptr h2.next 0) H=some (.str r.name):=by rw [aj q1];rfl
   rw [F.ay.dr];simp only [e7,e71,e72,e73,aR,reduceAdd,reduceEqDiff,reduceIte,bh hi,aW s.aC hi,dm dQ hv,Fc];simp only [aR,reduceAdd,reduceEqDiff,reduceIte,ct,aj pP,ln,QT,My];by_cases hd:r.name ∈ bE rules.l
   ·simp only [fE hd,aL];rw [rY,F.ay.jG];simp only [bO,reduceEqDiff,reduceIte];exact h4 (.inr ⟨r,ig hv,hd⟩) _ (fun b hb=>by rw [qo b (by omega),Kj b (by omega),hfr b (by omega),gx.get b hb])
   ·simp only [eT hd,aJ,e73,aI hi lU.1,aq];refine pH _ _ ⟨fun q hq=>?_,fun b hb=>by rw [qo b (by omega)];exact Kj b hb,by omega,e0,e3,e7,e71,e72,rfl⟩;rw [take_add_one,hv] at hq;rcases mem_append.1 hq with hq|hq
    ·exact HD q hq
    ·simp only [toList_some,mem_singleton] at hq;subst hq;exact hd
  ·rintro e h2 ⟨HD,Kj,wn2,e0,e3,e7,e71,e72,e73⟩ K2 gm;rw [kC (dL _)] at HD
   have ab4:¬ Ki rules.l s:=by
    rintro (hb|⟨r,hr,hd⟩)
    ·exact ae6 hb
    ·exact HD r hr hd
   specialize h5 ab4;specialize h0 ab4;have v0:h2.get h.next=some (.cells (ak s)):=by rw [Kj _ (by omega)];exact p0
   have vP:h2.get P=some (.cells [an aO 3 rules,.map A,.map M]):=by rw [Kj _ (by omega)];exact gP
   have vl:fC (bE rules.l) h2 M ks (ey.iter (bK rules.l) k):=la.gr (Kj _ (by omega));have lr:ag none (.ptr h.next 1) h2=some (an aQ 3 s.aC):=by rw [aj v0];rfl
   have ls:ag none (.ptr h.next 0) h2=some (.int .i64 (n:Int)):=by rw [aj v0,<- hn];rfl
   have hkl:ks.length<=60:=by
    have:=ey.qs BV (m:=bE rules.l) fun x hx=>(la.mem x).1 hx;have h1:(bE rules.l).length=rules.l.length:=by simp [bE]
    omega
   have Dr:aG .add (.int .i64 (s.aC.l.length:Int)) (.int .i64 (ks.length:Int))=some (.int .i64 ((s.aC.l.length+ks.length:Nat):Int)):=by
    rw [iF (by omega) (by omega)];rfl
   have hdk:=M1 la BV;rw [F.ay.dr];simp only [e72,e73,aR,reduceAdd,reduceEqDiff,reduceIte,aX];rw [gm,F.ay.cz];simp only [aR,reduceAdd,reduceEqDiff,reduceIte,e3,e7,lr,ct,aj vP,vl.len,Dr];by_cases hbg:8<s.aC.l.length+ks.length
   ·simp only [fE (by omega:(8:Int)<((s.aC.l.length+ks.length:Nat):Int)),aL];exact h5 (.inl (by rw [<- hdk];exact hbg)) _ (fun b hb=>by rw [Kj b (by omega),hfr b (by omega),gx.get b hb])
   have afa:iw [.int .i64 0,.jP] [(0,1),(1,1)] [.int .i64 (n:Int),.map h2.next]=some (.agg [.int .i64 (n:Int),.map h2.next]):=rfl;simp only [eT (by omega:¬ (8:Int)<((s.aC.l.length+ks.length:Nat):Int)),aJ,ls,aq,afa,cT (show bw [.int .i64 (n:Int),.map h2.next]=true from rfl),Heap.aM];have f0:((h2.alloc (.map [] 0)).alloc (.cells [.int .i64 (n:Int),.map h2.next])).get h2.next=some (.map [] 0):=by rw [Heap.aV,Heap.aM,if_neg (by omega)];exact aA _ _
   have f1:((h2.alloc (.map [] 0)).alloc (.cells [.int .i64 (n:Int),.map h2.next])).get (h2.next+1)=some (.cells [.int .i64 (n:Int),.map h2.next]):=aA _ _;have fx:bu h2 ((h2.alloc (.map [] 0)).alloc (.cells [.int .i64 (n:Int),.map h2.next])):=(bu.alloc _ _).trans (bu.alloc _ _);have fn:((h2.alloc (.map [] 0)).alloc (.cells [.int .i64 (n:Int),.map h2.next])).next=h2.next+1+1:=rfl
   generalize ((h2.alloc (.map [] 0)).alloc (.cells [.int .i64 (n:Int),.map h2.next]))=H2 at f0 f1 fx fn ⊢;have uP:H2.get P=some (.cells [an aO 3 rules,.map A,.map M]):=by rw [fx.get _ (by omega)];exact vP
   obtain ⟨esL,HV,mL,y1,y2,y3,y4,y5⟩:=la.ex;have uM:H2.get M=some (.map esL HV):=by rw [fx.get _ (by omega),Kj _ (by omega)];exact y1
   have afb:mM .map (.map M) H2=some (.ptr H2.next 0,H2.alloc (.fW (some M) HV [] HV)):=by simp only [mM,uM]
   simp only [e7,ct,aR,reduceAdd,reduceEqDiff,reduceIte,aj uP,afb];have r3:(H2.alloc (.fW (some M) HV [] HV)).get (h2.next+1+1)=some (.fW (some M) HV [] HV):=by have:=aA H2 (.fW (some M) HV [] HV);rwa [fn] at this
   have rx:bu H2 (H2.alloc (.fW (some M) HV [] HV)):=bu.alloc _ _;have rn:(H2.alloc (.fW (some M) HV [] HV)).next=h2.next+1+1+1:=by rw [Heap.aM,fn]
   rw [fn];generalize (H2.alloc (.fW (some M) HV [] HV))=H3 at r3 rx rn ⊢;have low:∀ b,b<h2.next->H3.get b=h2.get b:=fun b hb=>by rw [rx.get b (by omega),fx.get b hb]
   have s0:H3.get h2.next=some (.map [] 0):=by rw [rx.get _ (by omega)];exact f0
   have s1:H3.get (h2.next+1)=some (.cells [.int .i64 (n:Int),.map h2.next]):=by rw [rx.get _ (by omega)];exact f1
   have sM:H3.get M=some (.map esL HV):=by rw [rx.get _ (by omega)];exact uM
   have sP:H3.get P=some (.cells [an aO 3 rules,.map A,.map M]):=by rw [rx.get _ (by omega)];exact uP
   have sA:H3.get A=some (.map es ck):=by rw [low _ (by omega),Kj _ (by omega)];exact gA
   have sB:H3.get h.next=some (.cells (ak s)):=by rw [low _ (by omega)];exact v0
   have sl:fC (bE rules.l) H3 M ks (ey.iter (bK rules.l) k):=la.gr (by rw [sM,y1]);have sD:ei (fun _=>none) H3 h2.next (h2.next+1+1+1):=⟨⟨[],0,[],s0,trivial,fun nm=>rfl⟩,fun nm p hp=>(by cases hp),fun nm nm' p p' hp=>(by cases hp),by omega⟩
   refine Fm (S:=h2.next+1) (SB:=h.next) hn n1 xG (fun r hr=>ox (z6 r hr).1) jL s1 sB sP sA W7 sl sD (fun xT G4 hM'=>by rw [sM] at hM';cases hM';exact r3) rn (by omega) (by omega) (by omega) (by omega) (by omega) (by omega) (by omega) (by omega) (by omega) (by omega) (by omega) e0 e3 e7 rfl rfl (fun hb h' hf=>h5 (.inr (.inl (by rw [u6];exact hb))) h' (fun b hb=>by rw [hf b (by omega) (by omega),low b (by omega),Kj b (by omega),hfr b (by omega),gx.get b hb])) fun e4 h4' D a1 a2 a3 a4 a5 a6 j0 j3 j7 j17=>?_;rw [F.ay.iZ];simp only [j0,aR,reduceAdd,reduceEqDiff,reduceIte]
   refine Fl (s:=s) (SB:=h.next) (S:=h2.next+1) hn n1 xG jN ab1 (fun r hr=>(z6 r hr).2.2) (by rw [a5 _ (by omega) (by omega)];exact sB) (by omega) j3 j7 j17 rfl rfl rfl (fun hb h' hx=>h5 (.inr (.inr (by rw [u6];exact hb))) h' (fun b hb=>by rw [hx.get b (by omega),a5 b (by omega) (by omega),low b (by omega),Kj b (by omega),hfr b (by omega),gx.get b hb])) fun c1 e5 h6 c2 i3 i7 i17=>?_;have c6:=c2.next
   have t0:h6.get h.next=some (.cells (ak s)):=by rw [c2.get _ (by omega),a5 _ (by omega) (by omega)];exact sB
   have t1:h6.get (h2.next+1)=some (.cells [.int .i64 (n:Int),.map h2.next]):=by rw [c2.get _ (by omega),a5 _ (by omega) (by omega)];exact s1
   have lr6:ag none (.ptr h.next 1) h6=some (an aQ 3 s.aC):=by rw [aj t0];rfl
   rw [F.ay.PY];simp only [aR,reduceAdd,reduceEqDiff,reduceIte,i3,lr6];refine HL (S:=h2.next+1) (SB:=h.next) lU vg hn n1 xG t1 t0 (a2.ext c2) (by omega) (by omega) (by omega) (by omega) (by omega) i3 i7 i17 rfl rfl rfl fun h7 D7 d1 d2 d3 d4 d5=>?_
   have afc:¬ M0 rules.l s:=by
    rintro (hb|⟨r,hr,hb⟩|⟨r,hr,hb⟩)
    ·omega
    ·rw [u6] at hb;have:=a1 r hr;omega
    ·rw [u6] at hb;have:=c1 r hr;omega
   have gr:∀ b,b<h2.next->h7.get b=h2.get b:=fun b hb=>by rw [d4 b (by omega) (by omega),c2.get b (by omega),a5 b (by omega) (by omega),low b hb]
   refine h0 afc h7 n P A M (h2.next+1) h2.next (h2.next+1+1+1) ks k D7 m hn n1 xG iP ⟨?_,la.gr ?_,BV,jL,⟨es,ck,?_,W7⟩,?_,d1,by omega⟩ ⟨fun r hr=>?_,fun r hr=>?_,fun nm p hp=>?_⟩ (fun b hb=>?_) (by omega)
   ·rw [gr _ (by omega)];exact vP
   ·rw [gr _ (by omega),Kj _ (by omega)]
   ·rw [gr _ (by omega),Kj _ (by omega)];exact gA
   ·rw [d4 _ (by omega) (by omega)];exact t1
   ·obtain ⟨b,_,b2⟩:=d2 r hr;exact ⟨b,b2⟩
   ·obtain ⟨b,b2⟩:=a3 r hr;refine ⟨b,?_⟩;rw [d3 r.name fun q hq e=>HD q hq (by rw [e];exact List.mem_map_of_mem hr)];exact b2
   ·by_cases hq:∃ q ∈ s.aC.l,q.name=nm
    ·exact .inr hq
    ·rw [d3 nm fun q nU e=>hq ⟨q,nU,e⟩] at hp;exact .inl (a4 nm p hp)
   ·rw [gr _ (by omega),Kj _ (by omega),hfr _ (by omega),gx.get _ hb]
 obtain ⟨p,Gd,MT,pH⟩:=X7.mem en su;have vf:∀ b,b<h'.next->(hh.set h'.next (.fW (some A) ck (seen++[en.2.2]) ck)).get b=h'.get b:=fun b hb=>by rw [Heap.aK,if_neg (by omega)];exact wf b hb
 have v3:(hh.set h'.next (.fW (some A) ck (seen++[en.2.2]) ck)).get h'.next=some (.fW (some A) ck (seen++[en.2.2]) ck):=by rw [Heap.aK,if_pos rfl]
 have vn:(hh.set h'.next (.fW (some A) ck (seen++[en.2.2]) ck)).next=hh.next:=Heap.bl _ _ _
 simp only [G2,nV,uN,aq,cC,aL,Cs,e3,e7,X9,MT,pH];clear Cs;generalize (hh.set h'.next (.fW (some A) ck (seen++[en.2.2]) ck))=H at vf v3 vn ⊢;have pP:H.get P=some (.cells [an aO 3 rules,.map A,.map M]):=by rw [vf _ (by omega)];exact gP
 have p0':H.get h.next=some (.cells (ak s)):=by rw [vf _ (by omega)];exact p0
 have lS:ag (some 2) (.ptr h.next 0) H=some (.agg (ak s)):=by rw [aj p0',bV (cs:=ak s) (n:=2) rfl]
 obtain ⟨esL,HV,mL,y1,y2,y3,y4,y5⟩:=la.ex;have QT:=rE (h:=H) (by rw [vf M (by omega)];exact y1) y2 p.1;have My:(mL.find p.1).isSome=decide (p.1 ∈ bE rules.l):=by rw [y5];by_cases hh':p.1 ∈ bE rules.l<;>simp [hh']
 have fin:∀ (e':Env),(¬ (p.1 ∉ bE rules.l/\s.aC.l.find? (gv p.1 p.2)=none))->e' 0=an aO 3 rules->e' 3 = .ptr h.next 0->e' 7 = .ptr P 0->e' 46 = .ptr h'.next 0->K' .normal ⟨e',198,[],H⟩=true:=fun e' ab5 e0 e3 e7 X9=>by
  refine QA en su hns _ _ ⟨fun Vp Jy On q hq Ek=>?_,v3,vf,by omega,e0,e3,e7,X9⟩;rcases mem_append.1 On with On|On
  ·exact Gt Vp Jy On q hq Ek
  ·rw [mem_singleton] at On
   have hee:Vp=en:=by
    obtain ⟨i,hi⟩:=mem_iff_getElem?.1 su;obtain ⟨j,hj⟩:=mem_iff_getElem?.1 Jy;have vr:(es.map (·.2.2))[i]?=some en.2.2:=by rw [getElem?_map,hi];rfl
    have GW:(es.map (·.2.2))[j]?=some en.2.2:=by rw [getElem?_map,hj,<- On];rfl
    have hij:=oh ab2.nodup vr GW;subst hij;rw [hi] at hj;exact (Option.some.inj hj).symm
   rw [hee,MT] at Ek;injection Ek with h3
   have h6:q.2=p.2:=by
    have h7:=uX hmN hq;have h8:=uX hmN Gd;rw [<- h3,h8] at h7;exact (Option.some.inj h7).symm
   rw [<- h3,h6];exact ab5
 simp only [aR,reduceAdd,reduceEqDiff,reduceIte,ct,aj pP,QT,My];by_cases hd:p.1 ∈ bE rules.l
 ·simp only [fE hd,Bool.not_true,aJ];exact fin _ (fun hb=>hb.1 hd) e0 e3 e7 X9
 ·simp only [eT hd,Bool.not_false,aL,aR,reduceAdd,reduceEqDiff,reduceIte,lS];refine ah (rS lU ?_);simp only [aR,reduceAdd,reduceEqDiff,reduceIte];rcases lK (gv p.1 p.2) s.aC.l with ⟨f1,f2⟩|⟨j,r,f1,f2,f3⟩
  ·rw [f1];simp only [show decide ((-1:Int)<0)=true from rfl,aL];rw [TX,F.ay.bB];simp only [bO,reduceEqDiff,reduceIte];exact h4 (.inl ⟨(p.1,p.2),lY p Gd,hd,f2⟩) _ (fun b hb=>by rw [vf b (by omega),hfr b (by omega),gx.get b hb])
  ·rw [f1];simp only [eT (by omega:¬ ((j:Int)<0)),aJ];exact fin _ (fun hb=>by rw [f3] at hb;exact absurd hb.2 (by simp)) e0 e3 e7 X9
def z7(n:Nat)(s:cM):Lk:=fun nm k=>match s.aC.l.find? (fU nm) with|some r=>(bitsOf n r.arity.toNat r.aN.l).getD k false|none=>false
def mX(rs:List aP)(n:Nat)(s:cM)(F:Lk):Prop:=∃ k t,ey.di (bK rs) (ey.iter (bK rs) k)/\(∀ r ∈ rs,ey.iter (bK rs) k r.name<t)/\mJ n rs (ey.iter (bK rs) k) (z7 n s) t F
theorem mX.unique{A B:Lk}(h:mX rs n s A)(g:mX rs n s B):A=B:=by
 obtain ⟨j,t,h1,h2,h3⟩:=h;obtain ⟨k,u,g1,g2,g3⟩:=g;rw [ey.Fw h1 g1] at h2 h3;exact h3.same g3 h2 g2
theorem Oo(h:ey.di (bK rs) (ey.iter (bK rs) k)):MY rs (ey.iter (bK rs) k):=by
 intro r hr c hc k0 ⟨q,hq,Ek⟩
 have he:fA r c ∈ bK rs:=by
  refine mem_flatMap.2 ⟨r,hr,mem_flatMap.2 ⟨c,hc,?_⟩⟩;unfold mo;rw [if_pos ⟨k0,by rw [<- Ek];exact List.mem_map_of_mem hq⟩];exact mem_singleton.2 rfl
 have:=h _ he;unfold fA at this;exact this
theorem LH(sJ:rs.length<=60)(uV:∀ r ∈ rs,r.body.l.length<=20)(h:ey.di (bK rs) (ey.iter (bK rs) k))(x:b6):ey.iter (bK rs) k x<=1000000:=by
 have hN:∀ e ∈ bK rs,e.b ∈ bE rs/\e.h ∈ bE rs:=fun e he=>by
  obtain ⟨r,hr,c,hc,_,hin,rfl⟩:=tX he;exact ⟨hin,List.mem_map_of_mem hr⟩
 rw [ey.Fw h (ey.settle hN h)];have:=xj sJ uV (bE rs).length x;have h1:(bE rs).length=rs.length:=by simp [bE]
 rw [h1] at this ⊢;omega
def qp(rs:List aP)(nm:b6):Nat:=match rs.find? (fun r=>r.name==nm) with|some r=>r.args.l.length|none=>0
theorem ur(jL:dS rs []=some m){j k:Int}(h1:(x,j) ∈ cB rs)(h2:(x,k) ∈ cB rs):j=k:=by
 have a:=(kz jL x j).2 h1;have b:=(kz jL x k).2 h2;rw [a] at b;exact Option.some.inj b
theorem LI(jL:dS rs []=some m)(hr:r ∈ rs):qp rs r.name=r.args.l.length:=by
 unfold qp
 cases hf:rs.find? (fun q=>q.name==r.name) with
 |none=>
  rw [find?_eq_none] at hf;exact absurd (hf r hr) (by simp)
 |some q=>
  have hq:=mem_of_find?_eq_some hf;have Ek:=find?_some hf;rw [beq_iff_eq] at Ek;have:=ur jL (ou hq) (by rw [Ek];exact ou hr);simp only;omega
theorem Oq(hr:r ∈ rs)(hc:c ∈ r.body.l)(k0:c.kind=0):(c.name,(c.args.l.length:Int)) ∈ cB rs:=by
 refine mem_flatMap.2 ⟨r,hr,mem_cons_of_mem _ ?_⟩;unfold dV;exact mem_map.2 ⟨c,mem_filter.2 ⟨hc,by simpa using k0⟩,rfl⟩
structure ab6 (c:eP):Prop where
 kinds:c.kind=0\/c.kind=1\/c.kind=2
 two:c.kind=1\/c.kind=2->c.args.l.length=2
 arity:c.args.l.length<=12
theorem DT(h:gK c=true):ab6 c:=by
 unfold gK at h;by_cases k0:c.kind=0
 ·rw [if_pos k0] at h;exact ⟨.inl k0,fun h'=>by omega,ox h⟩
 ·rw [if_neg k0] at h;by_cases NX:c.kind=1\/c.kind=2
  ·rw [if_pos NX] at h;simp only [and_eq_true,decide_eq_true_eq] at h;exact ⟨.inr NX,fun _=>h.2.1,by omega⟩
  ·rw [if_neg NX] at h;cases h
theorem Ot(hg:kW rs)(hr:r ∈ rs):jD r=true:=by
 have:=((vh rs).1 hg).2.1;rw [List.all_eq_true] at this;exact this r hr
theorem z8(hg:kW rs)(hr:r ∈ rs)(hc:c ∈ r.body.l):gK c=true:=by
 have:=Ot hg hr;unfold jD at this;simp only [and_eq_true] at this;have h5:=this.2.2.2.1;rw [List.all_eq_true] at h5;exact h5 c hc
theorem Ou{k:Int}{r:Rel}(h:s.aC.l.find? (gv nm k)=some r):r ∈ s.aC.l/\r.name=nm/\r.arity=k:=by
 have h1:=mem_of_find?_eq_some h;have h2:=find?_some h;simp only [gv,and_eq_true,beq_iff_eq,decide_eq_true_eq] at h2;exact ⟨h1,h2.1,by first|exact h2.2|exact h2.2.symm⟩
theorem Ov(jL:dS rs []=some m)(vg:cG s=true)(hn:s.size=(n:Int))(h4:¬ Ki rs s)(h5:¬ M0 rs s)(sd:zZ n rs s D0)(hr:r ∈ rs)(hc:c ∈ r.body.l)(k0:c.kind=0) :
  n ^ c.args.l.length<=4096/\∃ p,D0 c.name=some p/\p.2.length=n ^ c.args.l.length:=by
 have u6:s.size.toNat=n:=by omega
 have HE:=Oq hr hc k0;by_cases hd:c.name ∈ bE rs
 ·obtain ⟨q,hq,Ek⟩:=mem_map.1 hd
  have hl:q.args.l.length=c.args.l.length:=by
   have:=ur jL (ou hq) (by rw [Ek];exact HE);omega
  obtain ⟨b,hb⟩:=sd.head q hq;rw [Ek] at hb;refine ⟨?_,_,hb,by rw [length_replicate,hl]⟩;rw [<- hl,<- u6];exact Nat.le_of_not_lt fun h=>h5 (.inr (.inl ⟨q,hq,h⟩))
 ·cases hf:s.aC.l.find? (gv c.name (c.args.l.length:Int)) with
  |none=>exact absurd (.inl ⟨_,HE,hd,hf⟩) h4
  |some q=>
   obtain ⟨hq,Ek,OT⟩:=Ou hf;obtain ⟨i,hi⟩:=mem_iff_getElem?.1 hq;have QE:=DL vg hi;rw [u6] at QE;obtain ⟨k,hk,NX,hkc,Uf⟩:=HF QE;obtain ⟨b,hb⟩:=sd.rel q hq;have hkl:k=c.args.l.length:=by omega
   rw [Ek] at hb;exact ⟨by rw [<- hkl];exact hkc,_,hb,by rw [Lf];congr 1;omega⟩
theorem pe(hn:s.size=(n:Int))(h5:¬ M0 rs s)(sd:zZ n rs s D0)(hr:r ∈ rs):n ^ r.args.l.length<=4096/\∃ p,D0 r.name=some p/\p.2.length=n ^ r.args.l.length:=by
 have u6:s.size.toNat=n:=by omega
 obtain ⟨b,hb⟩:=sd.head r hr;refine ⟨?_,_,hb,length_replicate⟩;rw [<- u6];exact Nat.le_of_not_lt fun h=>h5 (.inr (.inl ⟨r,hr,h⟩))
theorem QV(hg:kW rs)(jL:dS rs []=some m)(vg:cG s=true)(hn:s.size=(n:Int))(h4:¬ Ki rs s)(h5:¬ M0 rs s)(sd:zZ n rs s D0)(hr:r ∈ rs)(D:DB)(hd:eB D D0):F9 n D r:=
 ⟨fun c hc k0=>by
  obtain ⟨a,p0,b1,b2⟩:=Ov jL vg hn h4 h5 sd hr hc k0;obtain ⟨p,c1,_,c3⟩:=hd.get b1
  exact ⟨a,p,c1,by rw [c3];exact b2⟩,fun c hc=>(DT (z8 hg hr hc)).two,fun c hc=>(DT (z8 hg hr hc)).kinds,fun c hc=>(DT (z8 hg hr hc)).arity⟩
theorem QW(N k:Nat):(replicate N false).getD k false=false:=by
 rw [getD_eq_getElem?_getD,getElem?_replicate];split<;>rfl
theorem LJ(vg:cG s=true)(h4:¬ Ki rs s)(sd:zZ n rs s D0):eR D0=z7 n s:=by
 funext nm k;unfold z7
 cases hf:s.aC.l.find? (fU nm) with
 |some r=>
  have hr:=mem_of_find?_eq_some hf;have hn:=find?_some hf;simp only [fU,beq_iff_eq] at hn;obtain ⟨b,hb⟩:=sd.rel r hr;rw [hn] at hb;unfold eR;rw [hb]
 |none=>
  unfold eR
  cases hp:D0 nm with
  |none=>rfl
  |some p=>
   rcases sd.only nm p hp with hh|⟨r,hr,Ej⟩
   ·obtain ⟨r,hr,Ej⟩:=mem_map.1 hh;obtain ⟨b,hb⟩:=sd.head r hr;rw [Ej,hp] at hb;cases hb;exact QW _ _
   ·rw [find?_eq_none] at hf;exact absurd (hf r hr) (by simp [fU,Ej])
theorem LK(jN:∀ r ∈ rules.l,r.mC)(hg:kW rules.l)(vg:cG s=true)(h4:¬ Ki rules.l s)(h5:¬ M0 rules.l s){A lo:Nat}(hn:s.size=(n:Int))(n1:1<=n)(xG:n<=64)
  (iP:ey.di (bK rules.l) (ey.iter (bK rules.l) k)) (sh:LG n P A M S B lo rules ks (ey.iter (bK rules.l) k) D0 m h) (sd:zZ n rules.l s D0) {ng:FuncId} {na nb:List AV}
  (note:∀ (i:Int) (r:aP) (k:Int) (hd:Sl Int) (cs:Sl (Sl Int)) (ls:Sl Int) (y:AV) (h:Heap) (K:Out->Heap->Bool),(∀ h',bu h h'->K (.ret (.tuple [])) h'=true)->Sem TP ng (na++([.agg (bR i r k (an encI 1 hd) (an cX 1 cs) (an encI 1 ls)),y]++nb)) h K)
  (hK:∀ h' D' F,mX rules.l n s F->eR D'=F->eB D' D0->LG n P A M S B lo rules ks (ey.iter (bK rules.l) k) D' m h'->(∀ b,b<lo->h'.get b=h.get b)->h.next<=h'.next->K (.ret (.tuple [])) h'=true) :
  Sem TP 59 [.ptr P 0,.ptr S 0,.func ng na nb] h K:=by
 obtain ⟨hP,hl,BV,jL,⟨es,ck,hA,W7⟩,hS,hD,o1,o2,o3,o4,o5,o6⟩:=sh;have z6:=ji jL;have ny:∀ nm p,D0 nm=some p->lo<=p.1:=fun nm p hp=>(hD.FU nm p hp).1
 have o:Qv S n D0 rules.l ng na nb:=
  ⟨n1,xG,jN,fun r hr=>(z6 r hr).2.2,fun nm p hp=>by have:=ny nm p hp;omega,fun r hr D hd=>QV hg jL vg hn h4 h5 sd hr D hd,fun r hr=>⟨(pe hn h5 sd hr).1,ox (z6 r hr).1,(pe hn h5 sd hr).2⟩,note,hg.mC⟩
 refine N7 o hP (by omega) hl BV (by omega) (fun r hr=>List.mem_map_of_mem hr) (LH hg.mC (fun r hr=>(z6 r hr).2.1) iP) hS (by omega) hD (fun nm p hp=>by have:=ny nm p hp;omega) fun h' D' T hT hrun xq oW hfr pF=>?_;have gr:∀ b,b<lo->h'.get b=h.get b:=fun b hb=>hfr b (by omega) fun nm p hp=>by have:=ny nm p hp;omega
 have hlen:nH n rules.l D0:=fun r hr p hp=>by
  obtain ⟨_,q,h1,h2⟩:=pe hn h5 sd hr;rw [h1] at hp;cases hp;exact h2
 have UY:=(Oi n1 (Oo iP) hlen (fun r hr=>by obtain ⟨_,q,h1,_⟩:=pe hn h5 sd hr;exact ⟨q,h1⟩) hrun).1;rw [LJ vg h4 sd] at UY;refine hK h' D' (eR D') ⟨k,T+1,iP,fun r hr=>by have:=hT r.name (List.mem_map_of_mem hr);omega,UY⟩ rfl xq ⟨by rw [gr _ (by omega)];exact hP,hl.gr (gr _ (by omega)),BV,jL,⟨es,ck,by rw [gr _ (by omega)];exact hA,W7⟩,by rw [gr _ (by omega)];exact hS,oW,by omega⟩ gr pF
theorem QX{i:Int}{k:Int}{hd:Sl Int}{cs:Sl (Sl Int)}{ls:Sl Int}{y:AV}(hK:∀ h',bu h h'->K (.ret (.tuple [])) h'=true):Sem TP 60 ([]++([.agg (bR i r k (an encI 1 hd) (an cX 1 cs) (an encI 1 ls)),y]++[])) h K:=by
 refine F.Bw ?_;rw [F.Dg];simp only [cT (zQ i r k hd cs ls),aq];exact hK _ (bu.alloc _ _)
def yV(n:Nat)(F:Lk)(nm:b6)(k i:Nat):List (List Int):=((List.range i).filter (F nm)).map (nP n k)
theorem Ow(n:Nat)(F:Lk)(nm:b6)(k i:Nat):yV n F nm k (i+1)=yV n F nm k i++if F nm i=true then [nP n k i] else []:=by
 unfold yV;rw [range_succ,filter_append,map_append];by_cases h:F nm i=true<;>simp [h]
theorem JR(n:Nat)(F:Lk)(nm:b6)(k i:Nat):(yV n F nm k i).length<=i:=by
 unfold yV;rw [length_map];have:=length_filter_le (F nm) (List.range i);simpa using this
def xA(rs:List aP)(n:Nat)(F:Lk)(Vx:List b6):List (b6×Int×List (List Int)):=Vx.map fun nm=>(nm,(qp rs nm:Int),yV n F nm (qp rs nm) (n ^ qp rs nm))
def DU(rs:List aP)(s:cM)(e:Int):Prop:=((¬ kW rs\/cG s=false)/\e=1)\/(kW rs/\cG s=true/\((Ki rs s/\e=4)\/(¬ Ki rs s/\M0 rs s/\e=5)))
structure eX (rs:List aP) (s:cM):Prop where
 fP:kW rs
 valid:cG s=true
 names:¬ Ki rs s
 AZ:¬ M0 rs s
theorem B1(s:St):dh TP s Tryz.f19.results.toList=(match ag (some 2) (s.env 4) s.h,(some [s.env 5]:Option (List AV)) with|some v,some vs=>some (v :: vs)|_,_=>none):=by kernel_rfl
theorem B2(jL:dS rs []=some m)(h:nm ∈ bE rs):m.find nm=some (qp rs nm:Int)/\∃ r ∈ rs,r.name=nm/\qp rs nm=r.args.l.length:=by
 obtain ⟨r,hr,Ej⟩:=mem_map.1 h;have:=LI jL hr;rw [<- Ej];refine ⟨?_,r,hr,rfl,this⟩;rw [this];exact (kz jL _ _).2 (ou hr)
theorem LL(hl:fC (bE rs) h M ks lv)(BV:ks.Nodup):qB ks=eG rs:=by
 obtain ⟨h1,h2⟩:=Hs BV;exact wk h1 (pV rs) fun x=>by rw [h2,hl.mem,fS]
theorem Ox{D:DB}{p:Nat×List Bool}(hp:D nm=some p)(hi:i<p.2.length):p.2[i]?=some (eR D nm i):=by
 unfold eR;rw [hp];simp only;rw [getD_eq_getElem?_getD,ep hi];rfl
set_option maxHeartbeats 4000000 in
theorem dw{rules:Sl aP}{s:cM}(lu:∀ r ∈ rules.l,r.ok)(jN:∀ r ∈ rules.l,r.mC)(lU:s.ok)(RO:cG s=true->s.small){h:Heap}{K:Out->Heap->Bool}
  (LM:∀ e,DU rules.l s e->K (.ret (.tuple [.agg (ak ⟨0,none⟩),.int .i64 e])) h=true)
  (zR:eX rules.l s->∀ out:cM,out.size=s.size->(∃ Fk,mX rules.l s.size.toNat s Fk/\out.aC.l.map bH=s.aC.l.map bH++xA rules.l s.size.toNat Fk (eG rules.l))->K (.ret (.tuple [.agg (ak out),.int .i64 0])) h=true) :
  Sem TP 19 [an aO 3 rules,.agg (ak s)] h K:=by
 have hm:cI=140737488355328:=rfl
 have gen:∀ R:Out->Heap->Bool,(∀ e h',DU rules.l s e->R (.ret (.tuple [.agg (ak ⟨0,none⟩),.int .i64 e])) h'=true) ->
   (eX rules.l s->∀ h' a (x:Sl Rel) Fk,Fz true h' a (an aQ 3 x)->mX rules.l s.size.toNat s Fk->x.l.map bH=s.aC.l.map bH++xA rules.l s.size.toNat Fk (eG rules.l)->R (.ret (.tuple [.agg [.int .i64 s.size,a],.int .i64 0])) h'=true) ->
   Sem TP 19 [an aO 3 rules,.agg (ak s)] Heap.empty R:=by
  intro R ab7 W8;refine F.EL ?_;rw [F.Hf];simp only [cT (bS s),aq,bU,Heap.aM];have g0:((Heap.alloc Heap.empty (.cells (ak s))).alloc (.cells [.int .i64 0,.ax])).get 0=some (.cells (ak s)):=by simp [Heap.aV,bU]
  have g1:((Heap.alloc Heap.empty (.cells (ak s))).alloc (.cells [.int .i64 0,.ax])).get 1=some (.cells [.int .i64 0,.ax]):=by simp [Heap.aV,bU]
  have gn:((Heap.alloc Heap.empty (.cells (ak s))).alloc (.cells [.int .i64 0,.ax])).next=2:=rfl
  generalize ((Heap.alloc Heap.empty (.cells (ak s))).alloc (.cells [.int .i64 0,.ax]))=H0 at g0 g1 gn ⊢;have l0:ag (some 2) (.ptr 0 0) H0=some (.agg (ak s)):=by rw [aj g0,bV (cs:=ak s) (n:=2) rfl]
  have hz:iw [.int .i64 0,.ax] [] []=some (.agg [.int .i64 0,.ax]):=rfl
  have bad:∀ (e:Int) (h':Heap) (v:AV) (en:Env),e≠0->DU rules.l s e->(∀ b,b<2->h'.get b=H0.get b)->en 4 = .ptr 1 0->en 5 = .int .i64 e ->
    (af (iw [.int .i64 0,.ax] [] []) fun TU=>af (aS 2 (.ptr 1 0) TU h') fun h11=>af (match ag (some 2) (en 4) h11,(some [en 5]:Option (List AV)) with|some v,some vs=>some (v :: vs)|_,_=>none) fun vs=>R (.ret (oneOf vs)) h11)=true:=by
   intro e h' v en he hb hf e4 e5;have q1:h'.get 1=some (.cells [.int .i64 0,.ax]):=by rw [hf 1 (by omega)];exact g1
   have st:aS 2 (.ptr 1 0) (.agg [.int .i64 0,.ax]) h'=some (h'.set 1 (.cells [.int .i64 0,.ax])):=by
    rw [cq (n:=2) (v:=.agg [.int .i64 0,.ax]) q1 rfl rfl (by simp)];rfl
   have QH:ag (some 2) (.ptr 1 0) (h'.set 1 (.cells [.int .i64 0,.ax]))=some (.agg [.int .i64 0,.ax]):=by rw [aj (cs:=[.int .i64 0,.ax]) (by rw [Heap.aK,if_pos rfl])];rfl
   simp only [hz,aq,st,e4,e5,QH,oneOf];exact ab7 e _ hb
  simp only [l0,aq];refine ah (ay lu jN lU (fun hb h' hf=>?_) (fun a1 a2 a3 h' hf=>?_) (fun a1 a2 a3 a4 h' hf=>?_) fun a1 a2 a3 a4 h' n P A M S B lo ks k D0 m hn n1 xG iP sh sd hf hA2=>?_)
  ·simp only [aR,reduceAdd,reduceEqDiff,reduceIte,cA];simp only [show (!decide ((1:Int)=0))=true from rfl,aL,B1];exact bad 1 h' .ez _ (by omega) (.inl ⟨hb,rfl⟩) (by rw [<- gn];exact hf) rfl rfl
  ·simp only [aR,reduceAdd,reduceEqDiff,reduceIte,cA];simp only [show (!decide ((4:Int)=0))=true from rfl,aL,B1];exact bad 4 h' .ez _ (by omega) (.inr ⟨a1,a2,.inl ⟨a3,rfl⟩⟩) (by rw [<- gn];exact hf) rfl rfl
  ·simp only [aR,reduceAdd,reduceEqDiff,reduceIte,cA];simp only [show (!decide ((5:Int)=0))=true from rfl,aL,B1];exact bad 5 h' .ez _ (by omega) (.inr ⟨a1,a2,.inr ⟨a3,a4,rfl⟩⟩) (by rw [<- gn];exact hf) rfl rfl
  have u6:s.size.toNat=n:=by omega
  have afd:=RO a2;obtain ⟨_,_,_,_,h8⟩:=jA a2;specialize W8 ⟨a1,a2,a3,a4⟩;rw [u6] at W8;clear ab7 bad;simp only [aR,reduceAdd,reduceEqDiff,reduceIte,cA];simp only [decide_true,Bool.not_true,aJ];refine ah (LK jN a1 a2 a3 a4 hn n1 xG iP sh sd (fun _ _ _ _ _ _ _ _ _ hk=>QX hk) fun h3 D' Fk hF hDF xq sh3 Vy Vq=>?_);obtain ⟨hP,hl,BV,jL,⟨es,ck,hA,W7⟩,hS,hD,o1,o2,o3,o4,o5,o6⟩:=sh3;rw [gn] at hA2;have p0:h3.get 0=some (.cells (ak s)):=by rw [Vy 0 (by omega),hf 0 (by omega)];exact g0
  have p1:h3.get 1=some (.cells [.int .i64 0,.ax]):=by rw [Vy 1 (by omega),hf 1 (by omega)];exact g1
  have l3:ag (some 2) (.ptr 0 0) h3=some (.agg (ak s)):=by rw [aj p0,bV (cs:=ak s) (n:=2) rfl]
  simp only [aR,reduceAdd,reduceEqDiff,reduceIte,l3];refine ah (cF afd fun a h4 l x4 o4' hl4=>?_);obtain ⟨BZ,Kh⟩:=nc o4'.own;have BD:bw [.int .i64 s.size,a]=true:=by simp only [bw,Bool.and_true] at BZ ⊢;rw [BZ];rfl
  obtain ⟨H5,hs5,p5,po5,pn5⟩:=cr (h:=h4) (zs:=[.int .i64 0,.ax]) (cs:=[.int .i64 s.size,a]) (n:=2) rfl rfl BD;have x5:bu h4 H5:=⟨by omega,fun b hb=>po5 b (by omega)⟩
  have x35:bu h3 H5:=x4.trans x5;have hn4:=x4.next
  have hP5:H5.get P=some (.cells [an aO 3 rules,.map A,.map M]):=by rw [x35.get _ (by omega)];exact hP
  simp only [aR,reduceAdd,reduceEqDiff,reduceIte,hs5,ct,aj hP5];refine ah (keys_map ?_);simp only [aR,reduceAdd,reduceEqDiff,reduceIte];have gB:(H5.alloc (.box (.map M))).get H5.next=some (.box (.map M)):=aA _ _
  have xB:bu H5 (H5.alloc (.box (.map M))):=bu.alloc _ _;generalize (H5.alloc (.box (.map M)))=H6 at gB xB ⊢;have z6:=ji jL;have l5:fC (bE rules.l) H6 M ks (ey.iter (bK rules.l) k):=hl.gr ((x35.trans xB).get M (by omega))
  obtain ⟨Vs,Vt,gM,ab8,Wf,hel⟩:=l5.aeq BV fun s hs=>by
   obtain ⟨r,hr,rfl⟩:=mem_map.1 ((l5.mem s).1 hs);have:=Jc (xk (z6 r hr).1);omega
  have aeS:=M1 hl BV;have akm:=oY rules.l;have ab1:=a1.mC;refine ah (K9 gB gM ab8 (by omega) fun av h7 x7 oa=>?_);rw [Wf,LL hl BV] at oa;have hb7:=x7.next
  have hb6:=xB.next
  have x47:bu h4 h7:=(x5.trans xB).trans x7;have oo:=o4'.aeN x47 (Y:=fun b=>b=h4.next) (fun b hb=>by omega);have q5:h7.get h4.next=some (.cells [.int .i64 s.size,a]):=by rw [(xB.trans x7).get _ (by omega)];exact p5
  have x37:bu h3 h7:=x4.trans x47;simp only [aR,reduceAdd,reduceEqDiff,reduceIte,oa.len];have hdl:(eG rules.l).length<=cN:=by unfold cN;omega
  have WJ:l.length<=8:=by have:=congrArg List.length hl4;rw [length_map,length_map] at this;omega
  refine aE 0 (eG rules.l).length (zero_le _) (fun i e h'=>∃ a l,h'.get h4.next=some (.cells [.int .i64 s.size,a])/\QK (fun b=>b=h4.next) h3.next h' a l/\(l.map fun p=>bH p.2)=s.aC.l.map bH++xA rules.l n Fk ((eG rules.l).take i)/\l.length<=8+i/\(∀ b,b<h3.next->h'.get b=h3.get b)/\Own encS 1 H6.next h' av (eG rules.l)/\(∀ b,cD av=some b->cD a≠some b)/\h7.next<=h'.next /\
   e 3 = .ptr 0 0/\e 4 = .ptr 1 0/\e 6 = .ptr P 0/\e 7 = .ptr S 0/\e 9 = .ptr h4.next 0/\e 38=av/\e 39 = .int .i64 ((eG rules.l).length:Int)/\e 40 = .int .i64 (i:Int))
   ⟨a,l,q5,oo,by rw [hl4];simp [xA],by omega,fun b hb=>x37.get b hb,oa,fun b hb ff=>by have:=oa.ge hb;have:=o4'.own.lt ff;have:=x5.next;omega,dL _,rfl,rfl,rfl,rfl,rfl,rfl,rfl,rfl⟩ ?_ ?_
  ·rintro i e h' _ hi ⟨a,l,q5,o,hl5,hlen,hfr,Ya,ab9,pF,e3,e4,e6,e7,e9,Vz,NW,MR⟩ K' afh hx hr hp;have hv:(eG rules.l)[i]?=some (eG rules.l)[i]:=ep hi;generalize (eG rules.l)[i]=nm at hv;have xI:nm ∈ bE rules.l:=(fS _).1 (ig hv);obtain ⟨Il,r,og,Ej,Uk⟩:=B2 jL xI;obtain ⟨Ff,p0',BQ,abq⟩:=pe hn a4 sd og;rw [Ej] at BQ;obtain ⟨p,hpD,_,sX⟩:=xq.get BQ;rw [abq,<- Uk] at sX;rw [<- Uk] at Ff;have HA:qp rules.l nm<=12:=by rw [Uk];exact ox (z6 r og).1
   obtain ⟨_,hpn,_,acd⟩:=hD.FU nm p hpD;obtain ⟨q,_,i1,i2⟩:=tT Ya hv;have pP:h'.get P=some (.cells [an aO 3 rules,.map A,.map M]):=by rw [hfr _ (by omega)];exact hP
   have pA:h'.get A=some (.map es ck):=by rw [hfr _ (by omega)];exact hA
   have QT:dR .string (.int .i64 0) false (.map A) (.str nm) h'=some (.int .i64 (qp rules.l nm:Int)):=by rw [tV pA W7.1,Il];rfl
   have xF:iw [.str [],.int .i64 0,.ax] [(0,1),(1,1)] [.str nm,.int .i64 (qp rules.l nm:Int)]=some (.agg [.str nm,.int .i64 (qp rules.l nm:Int),.ax]):=rfl;obtain ⟨H8,hs8,p8,po8,pn8⟩:=cr (h:=h') (zs:=[.str [],.int .i64 0,.ax]) (cs:=[.str nm,.int .i64 (qp rules.l nm:Int),.ax]) (n:=3) rfl rfl rfl;have x8:bu h' H8:=⟨by omega,fun b hb=>po8 b (by omega)⟩
   have pS:H8.get S=some (.cells [.int .i64 (n:Int),.map B]):=by rw [x8.get _ (by omega),hfr _ (by omega)];exact hS
   have hD8:ei D' H8 B lo:=hD.ext ⟨by omega,fun b hb=>by rw [x8.get _ (by omega),hfr b hb]⟩;rw [F.dw.aT];simp only [e6,e7,Vz,NW,MR,aR,reduceAdd,reduceEqDiff,reduceIte,bh hi,i1,i2,ct,aj pP,QT,xF,hs8];simp only [aR,reduceAdd,reduceEqDiff,reduceIte,ct,aj pS,hD8.look hpD];have Ul:∀ hh,bW .slice (.slice p.1 0 p.2.length 1) hh=some (.int .i64 (p.2.length:Int)):=fun _=>rfl;simp only [Ul,aq];have hbp:p.2.length<=cN:=by rw [sX];unfold cN;omega
   refine aE 0 p.2.length (zero_le _) (fun j e h2=>∃ tv ts,h2.get h'.next=some (.cells [.str nm,.int .i64 (qp rules.l nm:Int),tv])/\Own cX 1 (h'.next+1) h2 tv ts/\ts.map Sl.l=yV n Fk nm (qp rules.l nm) j/\bu h' h2/\h'.next+1<=h2.next /\
    e 3 = .ptr 0 0/\e 4 = .ptr 1 0/\e 6 = .ptr P 0/\e 7 = .ptr S 0/\e 9 = .ptr h4.next 0/\e 38=av/\e 39 = .int .i64 ((eG rules.l).length:Int)/\e 40 = .int .i64 (i:Int)/\e 12 = .ptr h'.next 0/\e 57 = .slice p.1 0 p.2.length 1/\e 58 = .int .i64 (p.2.length:Int)/\e 59 = .int .i64 (j:Int))
    ⟨_,[],p8,.nil,rfl,x8,by omega,e3,e4,e6,e7,e9,Vz,NW,MR,rfl,rfl,rfl,rfl⟩ ?_ ?_
   ·rintro j e h2 _ hj ⟨tv,ts,q6,ot,JG,x2,QM,e3,e4,e6,e7,e9,Vz,NW,MR,BA,W9,Um,Yb⟩ K2 Un gm rY F5;have abL:ts.length<=j:=by have:=congrArg List.length JG;rw [length_map] at this;have:=JR n Fk nm (qp rules.l nm) j;omega
    have ace:h2.get p.1=some (.cells (p.2.map bv)):=(by rw [x2.get _ (by omega),hfr _ hpn];exact acd);have oW:=Ox hpD hj;rw [hDF] at oW;have Uo:=Ow n Fk nm (qp rules.l nm) j;rw [F.dw.dr];simp only [W9,Um,Yb,aR,reduceAdd,reduceEqDiff,reduceIte,bh hj,nF hj,Hy ace oW]
    cases hFb:Fk nm j with
    |false=>
     rw [hFb,if_neg (by simp),append_nil] at Uo;simp only [aJ,Yb,aI hj hbp,aq];exact Un _ _ ⟨tv,ts,q6,ot,by rw [Uo];exact JG,x2,QM,e3,e4,e6,e7,e9,Vz,NW,MR,BA,W9,Um,rfl⟩
    |true=>
     rw [hFb,if_pos rfl] at Uo;have w0:h2.get 0=some (.cells (ak s)):=by rw [x2.get _ (by omega),hfr 0 (by omega)];exact p0
     have lz:ag none (.ptr 0 0) h2=some (.int .i64 (n:Int)):=(by rw [aj w0,<- hn];rfl);have la:ag none (.ptr h'.next 1) h2=some (.int .i64 (qp rules.l nm:Int)):=by rw [aj q6];rfl
     have lt:ag none (.ptr h'.next 2) h2=some tv:=(by rw [aj q6];rfl);simp only [aL,e3,BA,Yb,aR,reduceAdd,reduceEqDiff,reduceIte,lz,la];refine ah (gu n1 xG HA Ff (by rw [<- sX];exact hj) fun t ht=>?_);obtain ⟨a9,h9,c9,o9,f9,n9,w9,b9⟩:=ot.push qI DO QM (bytes:=24) (by rw [hm];omega) t;have hne:cD tv≠some h'.next:=fun hb=>by have:=ot.ge hb;omega
     have s6:h9.get h'.next=some (.cells [.str nm,.int .i64 (qp rules.l nm:Int),tv]):=by rw [f9 _ (by omega) hne];exact q6
     have c6:=o9.lC
     have st:aS 1 (.ptr h'.next 2) a9 h9=some (h9.set h'.next (.cells [.str nm,.int .i64 (qp rules.l nm:Int),a9])):=by
      rw [cq (n:=1) s6 c6.2.1 c6.1 (by simp),c6.2.2];rfl
     simp only [aR,reduceAdd,reduceEqDiff,reduceIte,BA,lt,MX,c9,st,Yb,aI hj hbp];refine Un _ _ ⟨a9,ts++[t],by rw [Heap.aK,if_pos rfl],o9.kL (by omega) _,?_,(w9 h' x2 (by omega)).set (dL _) _,by rw [Heap.bl];omega,e3,e4,e6,e7,e9,Vz,NW,MR,BA,W9,Um,rfl⟩;rw [map_append,JG,Uo];simp [ht]
   ·rintro e h2 ⟨tv,ts,q6,ot,JG,x2,QM,e3,e4,e6,e7,e9,Vz,NW,MR,BA,W9,Um,Yb⟩ K2 gm;have oe:=o.ext x2;obtain ⟨Kf,OQ⟩:=nc ot;have lq:ag (some 3) (.ptr h'.next 0) h2=some (.agg (ic (nm,(qp rules.l nm:Int),⟨tv,Kf,OQ⟩))):=by rw [aj q6];rfl
    have q52:h2.get h4.next=some (.cells [.int .i64 s.size,a]):=by rw [x2.get _ (by omega)];exact q5
    have lo:ag none (.ptr h4.next 1) h2=some a:=(by rw [aj q52];rfl);obtain ⟨x,jO,Lm⟩:=(jE.zX ot mW).data;have Jn:x.l=ts:=by rw [jO,List.map_map];simp [Function.comp_def]
    obtain ⟨a9,h9,c9,o9,f9,n9,w9,b9⟩:=oe.push lM u9 (by omega) (bytes:=48) (by rw [hm];omega) (nm,(qp rules.l nm:Int),⟨tv,Kf,OQ⟩) ⟨nm,(qp rules.l nm:Int),x⟩ (fun b hb=>by omega)
     (fun g hg=>Ls (Lm g fun b b1 b2 _=>hg b (by omega) b2 (by omega) (fun hb=>by have:=o.own.lt hb;omega)))
    have hne:cD a≠some h4.next:=fun hb=>oe.av _ hb rfl
    have s5:h9.get h4.next=some (.cells [.int .i64 s.size,a]):=by rw [f9 _ (by omega) hne];exact q52
    have c6:=o9.own.lC
    have st:aS 1 (.ptr h4.next 1) a9 h9=some (h9.set h4.next (.cells [.int .i64 s.size,a9])):=by
     rw [cq (n:=1) s5 c6.2.1 c6.1 (by simp),c6.2.2];rfl
    rw [F.dw.dr];simp only [Um,Yb,aR,reduceAdd,reduceEqDiff,reduceIte,aX];rw [gm,F.dw.cz];simp only [aR,reduceAdd,reduceEqDiff,reduceIte,e9,BA,MR,lo,lq,Lr,c9,st,aI hi hdl];refine afh _ _ ⟨a9,_,by rw [Heap.aK,if_pos rfl],o9.aeM rfl _,?_,by simp;omega,fun b hb=>?_,?_,fun b hb ff=>by have:=Ya.lt hb;have:=b9 b ff;omega,by rw [Heap.bl];omega,e3,e4,e6,e7,e9,Vz,NW,rfl⟩
    ·rw [map_append,hl5,take_add_one,hv];unfold xA;rw [map_append,<- append_assoc];simp only [toList_some,map_cons,map_nil,bH,Jn,JG,sX]
    ·rw [Heap.aK,if_neg (by omega),f9 b (by omega) (fun ff=>by have:=oe.own.ge ff;omega),x2.get b (by omega)];exact hfr b hb
    ·have afk:∀ b,cD av=some b->(h9.set h4.next (.cells [.int .i64 s.size,a9])).get b=h'.get b:=fun b hb=>by
      have b1:=Ya.ge hb;have b2:=Ya.lt hb;rw [Heap.aK,if_neg (by omega),f9 b (by omega) ?_,x2.get b b2];intro ff;exact ab9 b hb ff
     exact Ya.agree afk (by rw [Heap.bl];omega)
  ·rintro e h' ⟨a,l,q5,o,hl5,hlen,hfr,Ya,ab9,pF,e3,e4,e6,e7,e9,Vz,NW,MR⟩ K' hx;rw [kC (dL _)] at hl5;obtain ⟨BZ,Kh⟩:=nc o.own;have Xa:bw [.int .i64 s.size,a]=true:=by simp only [bw,Bool.and_true] at BZ ⊢;rw [BZ];rfl
   have q1:h'.get 1=some (.cells [.int .i64 0,.ax]):=by rw [hfr 1 (by omega)];exact p1
   have lo:ag (some 2) (.ptr h4.next 0) h'=some (.agg [.int .i64 s.size,a]):=by rw [aj q5];rfl
   have st:aS 2 (.ptr 1 0) (.agg [.int .i64 s.size,a]) h'=some (h'.set 1 (.cells [.int .i64 s.size,a])):=by
    rw [cq (n:=2) (v:=.agg [.int .i64 s.size,a]) q1 rfl Xa (by simp)];rfl
   have QH:ag (some 2) (.ptr 1 0) (h'.set 1 (.cells [.int .i64 s.size,a]))=some (.agg [.int .i64 s.size,a]):=by rw [aj (cs:=[.int .i64 s.size,a]) (by rw [Heap.aK,if_pos rfl])];rfl
   rw [F.dw.aT];simp only [NW,MR,aR,reduceAdd,reduceEqDiff,reduceIte,aX];rw [hx,F.dw.aF];simp only [bO,reduceEqDiff,reduceIte,e4,e9,lo,st,aq,B1,QH,oneOf];obtain ⟨x,jO,gm⟩:=(o.low (d:=1) (by omega) (.cells [.int .i64 s.size,a])).fz;exact W8 _ a x Fk gm hF (by rw [jO,List.map_map];exact hl5)
 have main:=gen (fun o h'=>yes ((∃ e,DU rules.l s e/\o = .ret (.tuple [.agg (ak ⟨0,none⟩),.int .i64 e]))\/(eX rules.l s/\∃ (a:AV) (x:Sl Rel) (Fk:Lk),o = .ret (.tuple [.agg [.int .i64 s.size,a],.int .i64 0])/\Fz true h' a (an aQ 3 x)/\mX rules.l s.size.toNat s Fk/\x.l.map bH=s.aC.l.map bH++xA rules.l s.size.toNat Fk (eG rules.l))))
  (fun e h' he=>cw.2 (.inl ⟨e,he,rfl⟩)) (fun hr h' a x Fk hf hF hx=>cw.2 (.inr ⟨hr,a,x,Fk,rfl,hf,hF,hx⟩))
 refine main.frozen (by simp [AV.cL,AV.pure,cj fR,eu]) fun o h' ho=>?_;rcases cw.1 ho with ⟨e,he,rfl⟩|⟨hr,a,x,Fk,rfl,hf,hF,hx⟩
 ·exact ⟨_,_,rfl,.dO (by rfl),LM e he⟩
 ·have f1:=lQ.cons (.scalar (.int .i64 s.size) rfl) (lQ.cons hf lQ.nil);have f2:=lQ.cons (Fz.agg _ _ f1.len f1.rel) (lQ.cons (.scalar (.int .i64 0) rfl) lQ.nil);exact ⟨_,_,rfl,.tuple _ _ f2.len f2.rel,zR hr ⟨s.size,x⟩ rfl ⟨Fk,hF,hx⟩⟩
theorem Fo{x:Sl b6}{s:b6}(hl:x.l.length<=cN)(hK:K (.ret (.bool (x.l.any fun x=>x==s))) h=true):Sem TP 86 [an encS 1 x,.str s] h K:=by
 refine F.r8 ?_;rw [F.tC];refine aE 0 x.l.length (zero_le _) (fun i e h'=>h'=h/\e 0=an encS 1 x/\e 1 = .str s/\e 5 = .int .i64 (i:Int)/\((x.l.take i).any fun x=>x==s)=false) ⟨rfl,rfl,rfl,rfl,rfl⟩ ?_ ?_
 ·rintro i e h' _ hi ⟨rfl,e0,e1,e5,ht⟩ K' hn hx hr hp;have hv:x.l[i]?=some x.l[i]:=ep hi;generalize x.l[i]=t at hv;rw [F.dx.aT];simp only [e0,e1,e5,aR,reduceAdd,reduceEqDiff,reduceIte,bh hi,aW x hi,jw hv]
  cases hq:(t==s) with
  |true=>
   simp only [aL];rw [hr,F.dx.bB];have:(x.l.any fun x=>x==s)=true:=List.any_eq_true.2 ⟨t,ig hv,hq⟩;rw [this] at hK;simp only [bO,reduceEqDiff,reduceIte];exact hK
  |false=>
   simp only [aJ,e5,aI hi hl,aq];exact hn _ _ ⟨rfl,e0,e1,rfl,yI hv ht hq⟩
 ·rintro e h' ⟨rfl,e0,e1,e5,ht⟩ K' hx;rw [kC (dL _)] at ht;rw [F.dx.aT];simp only [e0,e5,aR,reduceAdd,reduceEqDiff,reduceIte,aX];rw [hx,F.dx.aF];rw [ht] at hK;exact hK
theorem QY(y:b6×Int):bw (nB y)=true:=rfl
def RP(l:List (b6×Int))(x:b6):Int:=match l.find? (fun p=>p.1==x) with|some p=>p.2|none=>-1
theorem Aa(sJ:rs.length<=60)(uV:∀ r ∈ rs,r.body.l.length<=20):(cB rs).length<=1260:=by
 have:∀ rs:List aP,(∀ r ∈ rs,r.body.l.length<=20)->(cB rs).length<=rs.length*21:=by
  intro rs
  induction rs with
  |nil=>intro _;simp [cB]
  |cons r rs ih=>
   intro h;have h1:=ih fun q hq=>h q (mem_cons_of_mem _ hq);have h2:=h r mem_cons_self;have h3:=qm r.body.l;unfold cB at h1 ⊢;rw [flatMap_cons,length_append,length_cons];have:(ud r).length=1+(dV r.body.l).length:=by unfold ud;rw [length_cons];omega
   omega
 have:=this rs uV;omega
theorem dZ{rules:Sl aP}(sJ:rules.l.length<=60)(uV:∀ r ∈ rules.l,r.body.l.length<=20){s:b6}{h:Heap}{K:Out->Heap->Bool}(hK:K (.ret (.int .i64 (RP (cB rules.l) s))) h=true):Sem TP 116 [an aO 3 rules,.str s] h K:=by
 have hal:=Aa sJ uV;refine F.Bt ?_;rw [F.Dc];refine ah (cK sJ uV fun x jO=>?_);simp only [aR,reduceAdd,reduceEqDiff,reduceIte];have MO:x.l.length<=cN:=by rw [jO];unfold cN;omega
 rw [<- jO] at hK;refine aE 0 x.l.length (zero_le _) (fun i e h'=>h'=h/\e 1 = .str s/\e 5=an nB 2 x/\e 6 = .int .i64 (i:Int)/\∀ p ∈ x.l.take i,p.1≠s) ⟨rfl,rfl,rfl,rfl,fun p hp=>(by cases hp)⟩ ?_ ?_
 ·rintro i e h' _ hi ⟨rfl,e1,e5,e6,y9⟩ K' hn hx hr hp;have hv:x.l[i]?=some x.l[i]:=ep hi;generalize x.l[i]=p at hv;rw [F.dZ.aT];simp only [e1,e5,e6,aR,reduceAdd,reduceEqDiff,reduceIte,bh hi,aW x hi,JO hv,LD hv,rM];by_cases hq:p.1=s
  ·simp only [fE hq,aL];rw [hr,F.dZ.bB];simp only [bO,reduceEqDiff,reduceIte]
   have:x.l.find? (fun p=>p.1==s)=some p:=by
    rw [find?_eq_some_iff_getElem];refine ⟨by simp [hq],i,hi,(jJ.1 hv).2,fun j hj=>?_⟩;have:=y9 _ (mem_take_iff_getElem.2 ⟨j,by omega,rfl⟩);simp [this]
   unfold RP at hK;rw [this] at hK;exact hK
  ·simp only [eT hq,aJ,e6,aI hi MO,aq];refine hn _ _ ⟨rfl,e1,e5,rfl,fun q nU=>?_⟩;rw [take_add_one,hv] at nU;rcases mem_append.1 nU with nU|nU
   ·exact y9 q nU
   ·simp only [toList_some,mem_singleton] at nU;subst nU;exact hq
 ·rintro e h' ⟨rfl,e1,e5,e6,y9⟩ K' hx;rw [kC (dL _)] at y9;rw [F.dZ.aT];simp only [e5,e6,aR,reduceAdd,reduceEqDiff,reduceIte,aX];rw [hx,F.dZ.aF]
  have:x.l.find? (fun p=>p.1==s)=none:=by
   rw [find?_eq_none];intro q hq;simp [y9 q hq]
  unfold RP at hK;rw [this] at hK;exact hK
theorem HN(jL:dS rs []=some m){k:Int}(h:(x,k) ∈ cB rs):RP (cB rs) x=k:=by
 unfold RP
 cases hf:(cB rs).find? (fun p=>p.1==x) with
 |none=>
  rw [find?_eq_none] at hf;exact absurd (hf _ h) (by simp)
 |some p=>
  have h1:=mem_of_find?_eq_some hf;have h2:=find?_some hf;rw [beq_iff_eq] at h2;simp only;exact ur jL (x:=x) (by rw [<- h2];exact h1) h
theorem QZ(jL:dS rs []=some m)(h:x ∈ bE rs):RP (cB rs) x=(qp rs x:Int):=by
 obtain ⟨r,hr,Ej⟩:=mem_map.1 h;rw [<- Ej,HN jL (ou hr),LI jL hr]
def pg(ds:List b6)(ys:List (b6×Int)):List b6:=ys.foldl (fun o y=>if y.1 ∈ ds then o else eM o y.1) []
theorem JS{ds:List b6}{ys:List (b6×Int)}{y:b6×Int}(hy:ys[i]?=some y):pg ds (ys.take (i+1))=if y.1 ∈ ds then pg ds (ys.take i) else eM (pg ds (ys.take i)) y.1:=by
 unfold pg;rw [take_add_one,hy];simp
theorem DV{ds:List b6}:∀ {ys:List (b6×Int)},x ∈ pg ds ys↔∃ y ∈ ys,y.1=x/\x ∉ ds:=by
 have key:∀ (ys:List (b6×Int)) (o:List b6),x ∈ ys.foldl (fun o y=>if y.1 ∈ ds then o else eM o y.1) o↔(x ∈ o\/∃ y ∈ ys,y.1=x/\x ∉ ds):=by
  intro ys
  induction ys with
  |nil=>intro o;simp
  |cons y ys ih=>
   intro o;rw [foldl_cons,ih];by_cases hd:y.1 ∈ ds
   ·rw [if_pos hd];constructor
    ·rintro (h|⟨z,hz,h1,h2⟩)
     ·exact .inl h
     ·exact .inr ⟨z,mem_cons_of_mem _ hz,h1,h2⟩
    ·rintro (h|⟨z,hz,h1,h2⟩)
     ·exact .inl h
     ·rcases mem_cons.1 hz with rfl|hz
      ·exact absurd (h1▸hd) h2
      ·exact .inr ⟨z,hz,h1,h2⟩
   ·rw [if_neg hd,rN];constructor
    ·rintro ((h|h)|⟨z,hz,h1,h2⟩)
     ·exact .inl h
     ·exact .inr ⟨y,mem_cons_self,h.symm,by rw [h];exact hd⟩
     ·exact .inr ⟨z,mem_cons_of_mem _ hz,h1,h2⟩
    ·rintro (h|⟨z,hz,h1,h2⟩)
     ·exact .inl (.inl h)
     ·rcases mem_cons.1 hz with rfl|hz
      ·exact .inl (.inr h1.symm)
      ·exact .inr ⟨z,hz,h1,h2⟩
 intro ys;unfold pg;rw [key];simp
theorem xC(ds:List b6):∀ (ys:List (b6×Int)),(pg ds ys).length<=ys.length:=by
 have key:∀ (ys:List (b6×Int)) (o:List b6),(ys.foldl (fun o y=>if y.1 ∈ ds then o else eM o y.1) o).length<=o.length+ys.length:=by
  intro ys
  induction ys with
  |nil=>intro o;simp
  |cons y ys ih=>
   intro o;rw [foldl_cons];have h1:=ih (if y.1 ∈ ds then o else eM o y.1)
   have h2:(if y.1 ∈ ds then o else eM o y.1).length<=o.length+1:=by
    split
    ·omega
    ·exact xp o y.1
   rw [length_cons];omega
 intro ys;have:=key ys [];simpa [pg] using this
def Gu(rs:List aP):List (b6×Int):=(pg (eG rs) (cB rs)).map fun s=>(s,RP (cB rs) s)
theorem Up{l:List b6}{s:b6}:(l.any fun x=>x==s)=decide (s ∈ l):=by
 rw [Bool.eq_iff_iff,List.any_eq_true,decide_eq_true_iff];constructor
 ·rintro ⟨x,hx,e⟩;rw [beq_iff_eq] at e;rw [<- e];exact hx
 ·intro h;exact ⟨s,h,by simp⟩
set_option maxHeartbeats 1000000 in
theorem cx{rules:Sl aP}(sJ:rules.l.length<=60)(uV:∀ r ∈ rules.l,r.body.l.length<=20){h:Heap}{K:Out->Heap->Bool}(hK:∀ x:Sl (b6×Int),x.l=Gu rules.l->K (.ret (an nB 2 x)) h=true):Sem TP 68 [an aO 3 rules] h K:=by
 have hm:cI=140737488355328:=rfl;have hal:=Aa sJ uV;have hdl:=oY rules.l
 have main:Sem TP 68 [an aO 3 rules] Heap.empty (fun o h'=>yes (∃ v,∃ x:Sl (b6×Int),o = .ret v/\x.l=Gu rules.l/\Fz true h' v (an nB 2 x))):=by
  refine F.yE ?_;rw [F.zL];refine ah (dA sJ fun d hd1=>?_);simp only [aR,reduceAdd,reduceEqDiff,reduceIte];refine ah (cK sJ uV fun x jO=>?_);simp only [aR,reduceAdd,reduceEqDiff,reduceIte];have Jn:x.l.length<=1260:=by rw [jO];exact hal
  have MO:x.l.length<=cN:=by unfold cN;omega
  have hdb:d.l.length<=cN:=by rw [hd1];unfold cN;omega
  refine aE 0 x.l.length (zero_le _) (fun i e h'=>∃ a,Own encS 1 0 h' a (pg (eG rules.l) (x.l.take i))/\e 0=an aO 3 rules/\e 3=an encS 1 d/\e 4=a/\e 5=an nB 2 x/\e 6 = .int .i64 (i:Int)) ⟨.ax,.nil,rfl,rfl,rfl,rfl,rfl⟩ ?_ ?_
  ·rintro i e h' _ hi ⟨a,o,e0,e3,e4,e5,e6⟩ K' hn hx hr hp;have hv:x.l[i]?=some x.l[i]:=ep hi;generalize x.l[i]=y at hv;have iP:=JS (ds:=eG rules.l) hv;rw [F.cx.aT];simp only [e3,e5,e6,aR,reduceAdd,reduceEqDiff,reduceIte,bh hi,aW x hi,JO hv];refine ah (Fo hdb ?_);rw [Up,hd1];simp only [aR,reduceAdd,reduceEqDiff,reduceIte];by_cases Ra:y.1 ∈ eG rules.l
   ·rw [if_pos Ra] at iP;simp only [fE Ra,Bool.not_true,aJ,e6,aI hi MO,aq];exact hn _ _ ⟨a,by rw [iP];exact o,e0,e3,e4,e5,rfl⟩
   ·rw [if_neg Ra] at iP;simp only [eT Ra,Bool.not_false,aL,e4,e5,e6,aR,reduceAdd,reduceEqDiff,reduceIte,aW x hi,JO hv];refine ah (er o (zero_le _) (by have h1:=xC (eG rules.l) (x.l.take i);have h2:=length_take_le i x.l;omega) fun a1 h1 x1 o1=>?_);simp only [aR,reduceAdd,reduceEqDiff,reduceIte,e6,aI hi MO];exact hn _ _ ⟨a1,by rw [iP];exact o1,e0,e3,rfl,e5,rfl⟩
  ·rintro e h' ⟨a,o,e0,e3,e4,e5,e6⟩ K' hx;rw [kC (dL _),jO] at o;have hol:=xC (eG rules.l) (cB rules.l);have hos:∃ os,os=pg (eG rules.l) (cB rules.l):=⟨_,rfl⟩
   obtain ⟨os,hos⟩:=hos;rw [<- hos] at o hol;have hob:os.length<=cN:=by unfold cN;omega
   rw [F.cx.aT];simp only [e5,e6,aR,reduceAdd,reduceEqDiff,reduceIte,aX];rw [hx,F.cx.aF]
   refine aE 0 os.length (zero_le _) (fun i e h2=>∃ b,(∀ c,cD a=some c->h2.get c=h'.get c)/\h'.next<=h2.next/\Own nB 2 h'.next h2 b ((os.take i).map fun s=>(s,RP (cB rules.l) s))/\e 0=an aO 3 rules/\e 4=a/\e 7=b/\e 8 = .int .i64 (i:Int))
    ⟨.ax,fun _ _=>rfl,dL _,.nil,e0,e4,rfl,rfl⟩ ?_ ?_
   ·rintro i e h2 _ hi ⟨b,hfr,pF,ob,e0,e4,e7,e8⟩ K2 pH gm rY F5;have hv:os[i]?=some os[i]:=ep hi;generalize os[i]=s at hv;have o2:=o.agree hfr pF;obtain ⟨q,_,i1,i2⟩:=tT o2 hv;obtain ⟨a5,h5,p5,o5,f5,n5,x5,b5⟩:=ob.push oR QY pF (bytes:=24) (by rw [hm,length_map,length_take];omega) (s,RP (cB rules.l) s);rw [F.cx.dr];simp only [e0,e4,e7,e8,o2.len,aR,reduceAdd,reduceEqDiff,reduceIte,bh hi,i1,i2];refine ah (dZ sJ uV ?_);simp only [aR,reduceAdd,reduceEqDiff,reduceIte,i2,AV.beq_refl,Bool.and_self,if_true,P7,P8,p5,e8,aI hi hob];refine pH _ _ ⟨a5,fun c hc=>by rw [f5 c (by have:=o.lt hc;omega) (fun hb=>by have:=ob.ge hb;have:=o.lt hc;omega)];exact hfr c hc,by omega,?_,e0,e4,rfl,rfl⟩;rw [take_add_one,hv,map_append];exact o5
   ·rintro e h2 ⟨b,hfr,pF,ob,e0,e4,e7,e8⟩ K2 gm;rw [kC (dL _)] at ob;have o2:=o.agree hfr pF;rw [F.cx.dr];simp only [e4,e8,o2.len,aR,reduceAdd,reduceEqDiff,reduceIte,aX];rw [gm,F.cx.cz];simp only [bO,reduceEqDiff,reduceIte,e7]
    obtain ⟨y,hy1,hy2⟩:=ob.K7 (fun v y hy=>by
     simp only [nB,mem_cons,not_mem_nil,_root_.or_false] at hy
     rcases hy with rfl|rfl<;>exact .scalar _ rfl)
    exact cw.2 ⟨b,y,rfl,by rw [hy1,hos];rfl,hy2⟩
 refine main.frozen (by simp [AV.cL,cj fR]) fun o h' ho=>?_;obtain ⟨v,x,rfl,hx,hf⟩:=cw.1 ho;exact ⟨v,_,rfl,hf,hK x hx⟩
theorem JT(jL:dS rs []=some m)(vg:cG s=true):(Gu rs).all (BC s)=true↔¬ ∃ p ∈ cB rs,p.1 ∉ bE rs/\s.aC.l.find? (gv p.1 p.2)=none:=by
 rw [List.all_eq_true];constructor
 ·rintro h ⟨p,hp,hd,hf⟩;have hin:(p.1,RP (cB rs) p.1) ∈ Gu rs:=mem_map.2 ⟨p.1,DV.2 ⟨p,hp,rfl,fun r7=>hd ((fS rs).1 r7)⟩,rfl⟩;have h1:=h _ hin;rw [HN jL (show (p.1,p.2) ∈ cB rs from hp),JB vg,hf] at h1;cases h1
 ·intro h y hy;obtain ⟨x,hx,rfl⟩:=mem_map.1 hy;obtain ⟨p,hp,rfl,hd⟩:=DV.1 hx;rw [HN jL (show (p.1,p.2) ∈ cB rs from hp),JB vg]
  cases hf:s.aC.l.find? (gv p.1 p.2) with
  |some _=>rfl
  |none=>exact absurd ⟨p,hp,fun r7=>hd ((fS rs).2 r7),hf⟩ h
theorem j4:∀ {a b c:List Int},dg a b=true->dg b c=true->dg a c=true
 |x :: a,y :: b,z :: c,h1,h2=>by
  rw [dg] at h1 h2 ⊢;by_cases e1:x=y
  ·rw [if_pos e1] at h1;subst e1;by_cases e2:x=z
   ·rw [if_pos e2] at h2 ⊢;exact j4 h1 h2
   ·rw [if_neg e2] at h2 ⊢;exact h2
  ·rw [if_neg e1] at h1;have q1:=of_decide_eq_true h1;by_cases e2:y=z
   ·subst e2;rw [if_neg e1];exact h1
   ·rw [if_neg e2] at h2;have q2:=of_decide_eq_true h2;rw [if_neg (by omega)];exact fE (by omega)
 |[],_,_,h1,_=>by simp [dg] at h1
 |_ :: _,[],_,h1,_=>by simp [dg] at h1
 |_ :: _,_ :: _,[],_,h2=>by simp [dg] at h2
def iR(l:List (List Int)):Prop:=l.Pairwise fun a b=>dg a b=true
def Uq(n k:Nat)(l:List (List Int)):Prop:=(∀ t ∈ l,t.length=k/\jC n t=true)/\iR l
theorem DW:∀ {l:List (List Int)},(∀ i a b,l[i]?=some a->l[i+1]?=some b->dg a b=true)->iR l
 |[],_=>.nil
 |x :: l,h=>by
  have ih:iR l:=DW fun i a b ha hb=>h (i+1) a b (by simpa using ha) (by simpa using hb);refine pairwise_cons.2 ⟨fun y hy=>?_,ih⟩
  cases l with
  |nil=>cases hy
  |cons z l=>
   have hz:=h 0 x z rfl rfl;rcases mem_cons.1 hy with rfl|hy
   ·exact hz
   ·exact j4 hz ((pairwise_cons.1 ih).1 y hy)
theorem DX{l:List (List Int)}(hs:iR l){a b:List Int}(ha:l[i]?=some a)(hb:l[i+1]?=some b):dg a b=true:=by
 obtain ⟨h1,rfl⟩:=jJ.1 ha;obtain ⟨h2,rfl⟩:=jJ.1 hb;exact pairwise_iff_getElem.1 hs i (i+1) h1 h2 (lt_succ_self i)
theorem JU{l:List (Sl Int)}:yM n k l=true↔Uq n k (l.map Sl.l):=by
 constructor
 ·intro h;refine ⟨fun t ht=>?_,DW fun i a b ha hb=>?_⟩
  ·obtain ⟨u,hu,rfl⟩:=mem_map.1 ht;obtain ⟨i,hi⟩:=getElem?_of_mem hu;exact QJ h hi
  ·rw [getElem?_map] at ha hb;obtain ⟨p,hp,rfl⟩:=map_eq_some_iff.1 ha;obtain ⟨t,ht,rfl⟩:=map_eq_some_iff.1 hb;have:=yQ h (jJ.1 ht).1;unfold mq at this;rw [ht] at this;simp only [hp,and_eq_true] at this;exact this.2.2
 ·rintro ⟨h1,h2⟩;refine om fun i hi=>?_;have ht:l[i]?=some l[i]:=ep hi;generalize l[i]=t at ht;obtain ⟨q1,q2⟩:=h1 t.l (List.mem_map_of_mem (ig ht));unfold mq;rw [ht];simp only [q1,q2,decide_true,Bool.true_and]
  cases i with
  |zero=>rfl
  |succ j=>
   have hj:j<l.length:=by omega
   have hp:l[j]?=some l[j]:=ep hj;generalize l[j]=p at hp;simp only [hp];exact DX h2 (i:=j) (by rw [getElem?_map,hp];rfl) (by rw [getElem?_map,ht];rfl)
theorem Ur{l:List (List Int)}(h:Uq n k l):l.length<=n ^ k:=by
 have key:∀ i a,l[i]?=some a->i<=nA n a:=by
  intro i
  induction i with
  |zero=>intro a _;exact zero_le _
  |succ i ih=>
   intro b hb;have hi:i<l.length:=by have:=(jJ.1 hb).1;omega
   have ha:l[i]?=some l[i]:=ep hi;generalize l[i]=a at ha;have:=ih a ha;obtain ⟨a1,a2⟩:=h.1 a (ig ha);obtain ⟨b1,b2⟩:=h.1 b (ig hb);have:=Gj (by omega) a2 b2 (DX h.2 ha hb);omega
 cases hl:l.length with
 |zero=>exact zero_le _
 |succ m=>
  have hm:l[m]?=some (l[m]'(by omega)):=ep _;have h1:=key m _ hm;obtain ⟨a1,a2⟩:=h.1 _ (ig hm);have h2:=xm a2;rw [a1] at h2;omega
def acg(n:Nat)(d:NU):Prop:=ec d.1=true/\∃ k:Nat,d.2.1=(k:Int)/\k<=12/\n ^ k<=4096/\Uq n k d.2.2
theorem JV{r:Rel}:nD n r=true↔acg n (bH r):=by
 constructor
 ·intro h;obtain ⟨k,h1,h2,h3,h4⟩:=HF h;simp only [nD,and_eq_true] at h;exact ⟨h.1,k,h1,h2,h3,JU.1 h4⟩
 ·rintro ⟨h0,k,h1,h2,h3,h4⟩;have UT:r.arity=(k:Int):=h1;have hk:r.arity.toNat=k:=by omega
  simp only [nD,and_eq_true,decide_eq_true_eq,hk];exact ⟨h0,by omega,by omega,h3,JU.2 h4⟩
structure JW (size:Int) (ds:List NU):Prop where
 lo:1<=size
 hi:size<=64
 mC:ds.length<=8
 rel:∀ d ∈ ds,acg size.toNat d
 names:(ds.map (·.1)).Nodup
theorem eS:cG s=true↔JW s.size (s.aC.l.map bH):=by
 constructor
 ·intro h;have h':=h;simp only [cG,and_eq_true,decide_eq_true_eq] at h';refine ⟨h'.1,h'.2.1,by simpa using h'.2.2.1,fun d hd=>?_,?_⟩
  ·obtain ⟨r,hr,rfl⟩:=mem_map.1 hd;obtain ⟨i,hi⟩:=getElem?_of_mem hr;exact JV.1 (DL h hi)
  ·have:=rT h;rw [List.map_map];exact this
 ·rintro ⟨h1,h2,h3,h4,h5⟩;rw [length_map] at h3;simp only [cG,and_eq_true,decide_eq_true_eq];refine ⟨h1,h2,h3,om fun i hi=>?_⟩;have hr:s.aC.l[i]?=some s.aC.l[i]:=ep hi;have sr:=hr;generalize s.aC.l[i]=r at hr;rw [oU,hr];simp only [and_eq_true,not_eq_true'];refine ⟨JV.2 (h4 _ (List.mem_map_of_mem (ig hr))),?_⟩;rw [eq_false_iff];intro afl;obtain ⟨q,hq,Ek⟩:=List.any_eq_true.1 afl;obtain ⟨j,hj⟩:=getElem?_of_mem hq;have hji:j<i:=by have:=(jJ.1 hj).1;rw [length_take] at this;omega
  rw [getElem?_take_of_lt hji] at hj;rw [List.map_map,List.Nodup,pairwise_iff_getElem] at h5;have Nn:j<s.aC.l.length:=by omega
  have:=h5 j i (by simpa using Nn) (by simpa using hi) hji;rw [getElem_map,getElem_map] at this;rw [ep Nn] at hj;rw [ep hi] at hr;cases hj;cases hr;simp only [beq_iff_eq] at Ek;exact this Ek
theorem eo(h:cG s=true):s.small/\s.ok:=by
 have hp:=eS.1 h
 have len:∀ r ∈ s.aC.l,r.aN.l.length<=4096/\(∀ t ∈ r.aN.l,t.l.length<=12)/\r.name.length<=12:=fun r hr=>by
  obtain ⟨h0,k,h1,h2,h3,h4⟩:=hp.rel _ (List.mem_map_of_mem hr);have:=Ur h4;simp only [bH,length_map] at this;refine ⟨by omega,fun t ht=>?_,?_⟩
  ·have:=(h4.1 t.l (List.mem_map_of_mem ht)).1;omega
  ·replace h0:ec r.name=true:=h0;unfold ec at h0;split at h0
   ·cases h0
   ·simp only [and_eq_true,decide_eq_true_eq] at h0;exact h0.1
 have hl:s.aC.l.length<=8:=by have:=hp.mC;simpa using this
 exact ⟨⟨by omega,fun r hr=>by have:=(len r hr).1;omega,fun r hr t ht=>by have:=(len r hr).2.1 t ht;omega⟩,
  ⟨by unfold cN;omega,fun r hr=>⟨by have:=(len r hr).2.2;unfold cN;omega,by have:=(len r hr).1;unfold cN;omega,fun t ht=>by have:=(len r hr).2.1 t ht;unfold cN;omega⟩⟩⟩
def pq(rs:List aP)(Vx:List b6):List Rel:=Vx.map fun nm=>⟨nm,(qp rs nm:Int),none⟩
def lD(rs:List aP)(Vx:List b6):List NU:=Vx.map fun nm=>(nm,(qp rs nm:Int),[])
theorem xD(rs:List aP)(Vx:List b6):(pq rs Vx).map bH=lD rs Vx:=by unfold pq lD;rw [List.map_map];rfl
theorem Oy(s:St):dh TP s Tryz.f70.results.toList=(match ag (some 2) (s.env 4) s.h,(some []:Option (List AV)) with|some v,some vs=>some (v :: vs)|_,_=>none):=by kernel_rfl
theorem Us(nm:b6)(k:Int):iw [.str [],.int .i64 0,.ax] [(0,1),(1,1)] [.str nm,.int .i64 k]=some (.agg (aQ ⟨nm,k,none⟩)):=rfl
set_option maxHeartbeats 1000000 in
theorem fZ{rules:Sl aP}{s:cM}{m:eF}(sJ:rules.l.length<=60)(uV:∀ r ∈ rules.l,r.body.l.length<=20)(jL:dS rules.l []=some m)(RO:s.small){h:Heap}{K:Out->Heap->Bool}
  (hK:∀ a h' rs1,bu h h'->Own aQ 3 h.next h' a (rs1++pq rules.l (eG rules.l))->rs1.map bH=s.aC.l.map bH->K (.ret (.agg [.int .i64 s.size,a])) h'=true):Sem TP 70 [an aO 3 rules,.agg (ak s)] h K:=by
 have hm:cI=140737488355328:=rfl;have hdl:=oY rules.l;refine F.Bu ?_;rw [F.Dd];simp only [cT (bS s),aq,Heap.aM];have g0:(Heap.alloc (Heap.alloc h (.cells (ak s))) (.cells [.int .i64 0,.ax])).get h.next=some (.cells (ak s)):=by rw [Heap.aV,Heap.aM,if_neg (by omega)];exact aA _ _
 have g1:(Heap.alloc (Heap.alloc h (.cells (ak s))) (.cells [.int .i64 0,.ax])).get (h.next+1)=some (.cells [.int .i64 0,.ax]):=aA _ _;have gn:(Heap.alloc (Heap.alloc h (.cells (ak s))) (.cells [.int .i64 0,.ax])).next=h.next+2:=rfl
 have gx:bu h (Heap.alloc (Heap.alloc h (.cells (ak s))) (.cells [.int .i64 0,.ax])):=(bu.alloc _ _).trans (bu.alloc _ _);generalize (Heap.alloc (Heap.alloc h (.cells (ak s))) (.cells [.int .i64 0,.ax]))=H1 at g0 g1 gn gx ⊢;have l0:ag (some 2) (.ptr h.next 0) H1=some (.agg (ak s)):=by rw [aj g0,bV (cs:=ak s) (n:=2) rfl]
 simp only [l0,aq];refine ah (gJ RO fun a h3 rs x3 o3 JD=>?_);obtain ⟨BZ,Kh⟩:=nc o3;have BD:bw [.int .i64 s.size,a]=true:=by simp only [bw,Bool.and_true] at BZ ⊢;rw [BZ];rfl
 obtain ⟨H4,OS,p4,Lt,WT⟩:=cr (h:=h3) (zs:=[.int .i64 0,.ax]) (cs:=[.int .i64 s.size,a]) (n:=2) rfl rfl BD;have x4:bu h3 H4:=⟨by omega,fun b hb=>Lt b (by omega)⟩
 have n3:=x3.next
 rw [gn] at o3 n3;have x34:=(gx.trans x3).trans x4;simp only [aR,reduceAdd,reduceEqDiff,reduceIte,OS];refine ah (dA sJ fun d hd1=>?_);have aku:d.l.length<=60:=by rw [hd1];omega
 have hdb:d.l.length<=cN:=by unfold cN;omega
 have hrl:=RO.aC;have akv:rs.length=s.aC.l.length:=by have:=congrArg List.length JD;simpa using this
 simp only [aR,reduceAdd,reduceEqDiff,reduceIte]
 refine aE 0 d.l.length (zero_le _) (fun i e h'=>∃ a,h'.get h3.next=some (.cells [.int .i64 s.size,a])/\h'.get (h.next+1)=some (.cells [.int .i64 0,.ax])/\Own aQ 3 (h.next+2) h' a (rs++pq rules.l (d.l.take i))/\cD a≠some h3.next/\(∀ b,b<h.next->h'.get b=h.get b)/\h3.next<h'.next /\
  e 0=an aO 3 rules/\e 4 = .ptr (h.next+1) 0/\e 5 = .ptr h3.next 0/\e 6=an encS 1 d/\e 7 = .int .i64 (i:Int))
  ⟨a,p4,by rw [x4.get _ (by omega),x3.get _ (by omega)];exact g1,by simpa [pq] using o3.ext x4,fun hb=>by have:=o3.lt hb;omega,fun b hb=>x34.get b hb,by omega,rfl,rfl,rfl,rfl,rfl⟩ ?_ ?_
 ·rintro i e h' _ hi ⟨a,q3,q1,o,hne,hfr,pF,e0,e4,e5,e6,e7⟩ K' hn hx hr hp;have hv:d.l[i]?=some d.l[i]:=ep hi;generalize d.l[i]=nm at hv;have xI:nm ∈ bE rules.l:=(fS _).1 (by rw [<- hd1];exact ig hv);have lo:ag none (.ptr h3.next 1) h'=some a:=by rw [aj q3];rfl
  have li:∀ hh,ag none (.dN (d.l.flatMap encS) (i*1)) hh=some (.str nm):=fun hh=>jw hv;obtain ⟨a5,h5,p5,o5,f5,n5,x5,b5⟩:=o.push dQ fT (by omega) (bytes:=48) (by rw [hm,length_append];unfold pq;rw [length_map,length_take];omega) ⟨nm,(qp rules.l nm:Int),none⟩;have s3:h5.get h3.next=some (.cells [.int .i64 s.size,a]):=by rw [f5 _ (by omega) hne];exact q3
  have c5:=o5.lC
  have st:aS 1 (.ptr h3.next 1) a5 h5=some (h5.set h3.next (.cells [.int .i64 s.size,a5])):=by
   rw [cq (n:=1) s3 c5.2.1 c5.1 (by simp),c5.2.2];rfl
  rw [F.fZ.aT];simp only [e0,e5,e6,e7,aR,reduceAdd,reduceEqDiff,reduceIte,bh hi,lo,aW d hi,li];refine ah (dZ sJ uV ?_);rw [QZ jL xI];simp only [aR,reduceAdd,reduceEqDiff,reduceIte,li,lo,AV.beq_refl,Bool.and_self,Bool.and_true,if_true,Us,MW,p5,e5,e7,st,aI hi hdb];refine hn _ _ ⟨a5,by rw [Heap.aK,if_pos rfl],by rw [Heap.aK,if_neg (by omega),f5 _ (by omega) (fun hb=>by have:=o.ge hb;omega)];exact q1,?_,fun hb=>by have:=b5 _ hb;omega,fun b hb=>?_,by rw [Heap.bl];omega,e0,e4,e5,e6,rfl⟩
  ·have hl:rs++pq rules.l (d.l.take (i+1))=(rs++pq rules.l (d.l.take i))++[⟨nm,(qp rules.l nm:Int),none⟩]:=by
    rw [take_add_one,hv];unfold pq;rw [map_append,<- append_assoc];rfl
   rw [hl];exact o5.agree (fun b hb=>by rw [Heap.aK,if_neg (by have:=b5 _ hb;omega)]) (by rw [Heap.bl];exact dL _)
  ·rw [Heap.aK,if_neg (by omega),f5 b (by omega) (fun ff=>by have:=o.ge ff;omega)];exact hfr b hb
 ·rintro e h' ⟨a,q3,q1,o,hne,hfr,pF,e0,e4,e5,e6,e7⟩ K' hx;rw [kC (dL _),hd1] at o;obtain ⟨BZ,Kh⟩:=nc o;have Xa:bw [.int .i64 s.size,a]=true:=by simp only [bw,Bool.and_true] at BZ ⊢;rw [BZ];rfl
  have lo:ag (some 2) (.ptr h3.next 0) h'=some (.agg [.int .i64 s.size,a]):=by rw [aj q3];rfl
  have st:aS 2 (.ptr (h.next+1) 0) (.agg [.int .i64 s.size,a]) h'=some (h'.set (h.next+1) (.cells [.int .i64 s.size,a])):=by
   rw [cq (n:=2) (v:=.agg [.int .i64 s.size,a]) q1 rfl Xa (by simp)];rfl
  have QH:ag (some 2) (.ptr (h.next+1) 0) (h'.set (h.next+1) (.cells [.int .i64 s.size,a]))=some (.agg [.int .i64 s.size,a]):=by rw [aj (cs:=[.int .i64 s.size,a]) (by rw [Heap.aK,if_pos rfl])];rfl
  rw [F.fZ.aT];simp only [e6,e7,aR,reduceAdd,reduceEqDiff,reduceIte,aX];rw [hx,F.fZ.aF];simp only [bO,reduceEqDiff,reduceIte,e4,e5,lo,st,aq,Oy,QH,oneOf];exact hK a _ rs ⟨by rw [Heap.bl];omega,fun b hb=>by rw [Heap.aK,if_neg (by omega)];exact hfr b hb⟩ ((o.kL (by omega) _).Dl (by omega)) JD
theorem Fp{n:Int}{a:AV}{rs:List Rel}(o:Own aQ 3 k h a rs)(lu:(⟨n,some rs⟩:cM).ok)(hK:K (.ret (.bool (cG ⟨n,some rs⟩))) h=true):Sem TP 66 [.agg [.int .i64 n,a]] h K:=by
 obtain ⟨x,jO,gm⟩:=o.K7 (fun v y hy=>by
  simp only [aQ,mem_cons,not_mem_nil,_root_.or_false] at hy;rcases hy with rfl|rfl|rfl
  ·exact .scalar _ rfl
  ·exact .scalar _ rfl
  ·exact .dO (cj mW _))
 have Xb:(⟨n,x⟩:cM).ok:=by
  obtain ⟨q1,q2⟩:=lu;exact ⟨by show x.l.length<=cN;rw [jO];exact q1,fun r hr=>q2 r (by have:r ∈ x.l:=hr;rw [jO] at this;exact this)⟩
 have he:cG ⟨n,x⟩=cG ⟨n,some rs⟩:=by
  rw [Bool.eq_iff_iff,eS,eS];show JW n (x.l.map bH)↔JW n (rs.map bH);rw [jO]
 have hs:=cp (s:=⟨n,x⟩) Xb (h:=Heap.empty) (K:=qh (.bool (cG ⟨n,x⟩))) (gh rfl);rw [<- he] at hK;have fl:=lQ.cons (.scalar (.int .i64 n) rfl) (lQ.cons gm lQ.nil);exact Sem.abd rfl hs (lQ.cons (.agg _ _ fl.len fl.rel) .nil) hK
theorem A0{rs':List Rel}(hg:kW rs)(jL:dS rs []=some m)(vg:cG s=true)(h4:¬ ∃ r ∈ s.aC.l,r.name ∈ bE rs)(JD:rs'.map bH=s.aC.l.map bH++lD rs (eG rs)) :
  cG ⟨s.size,some rs'⟩=true↔¬ (8<s.aC.l.length+(eG rs).length\/∃ r ∈ rs,4096<s.size.toNat ^ r.args.l.length):=by
 have hsp:=eS.1 vg;have hlen:rs'.length=s.aC.l.length+(eG rs).length:=by have:=congrArg List.length JD;simpa [lD] using this
 rw [eS];show JW s.size (rs'.map bH)↔_;rw [JD];constructor
 ·rintro ⟨q1,q2,q3,q4,q5⟩ (hb|⟨r,hr,hb⟩)
  ·rw [length_append,length_map] at q3;unfold lD at q3;rw [length_map] at q3;omega
  ·have hm:(r.name,(qp rs r.name:Int),([]:List (List Int))) ∈ s.aC.l.map bH++lD rs (eG rs):=mem_append_right _ (mem_map.2 ⟨r.name,(fS rs).2 (List.mem_map_of_mem hr),rfl⟩);obtain ⟨_,k,h1,h2,h3,_⟩:=q4 _ hm;rw [LI jL hr] at h1;have:k=r.args.l.length:=by simp only at h1;omega
   rw [this] at h3;omega
 ·intro y9;have hd8:s.aC.l.length+(eG rs).length<=8:=Nat.le_of_not_lt fun h=>y9 (.inl h);refine ⟨hsp.lo,hsp.hi,by rw [length_append,length_map];unfold lD;rw [length_map];exact hd8,fun d hd=>?_,?_⟩
  ·rcases mem_append.1 hd with hd|hd
   ·exact hsp.rel d hd
   ·obtain ⟨nm,xI,rfl⟩:=mem_map.1 hd;obtain ⟨_,r,hr,Ej,Uk⟩:=B2 jL ((fS rs).1 xI);have HE:=(ji jL r hr).1;refine ⟨by rw [<- Ej];exact xk HE,qp rs nm,rfl,by rw [Uk];exact ox HE,?_,fun t ht=>(by cases ht),List.Pairwise.nil⟩;rw [Uk];exact Nat.le_of_not_lt fun h=>y9 (.inr ⟨r,hr,h⟩)
  ·rw [map_append];have e2:(lD rs (eG rs)).map (·.1)=eG rs:=by unfold lD;rw [List.map_map];simp [Function.comp_def]
   rw [e2];refine nodup_append.2 ⟨hsp.names,AR (pV rs),fun x hx y hy e=>?_⟩;subst e;rw [List.map_map] at hx;obtain ⟨r,hr,Ej⟩:=mem_map.1 hx;exact h4 ⟨r,hr,by have:=(fS rs).1 hy;rw [<- Ej] at this;exact this⟩
set_option maxHeartbeats 2000000 in
theorem bG{rules:Sl aP}{s:cM}(lu:∀ r ∈ rules.l,r.ok)(jN:∀ r ∈ rules.l,r.mC)(lU:s.ok){h:Heap}{K:Out->Heap->Bool}
  (LM:∀ e,DU rules.l s e->K (.ret (.int .i64 e)) h=true) (zR:eX rules.l s->K (.ret (.int .i64 0)) h=true):Sem TP 23 [an aO 3 rules,.agg (ak s)] h K:=by
 have gen:∀ R:Out->Heap->Bool,(∀ e h',(DU rules.l s e\/(e=0/\eX rules.l s))->R (.ret (.int .i64 e)) h'=true)->Sem TP 23 [an aO 3 rules,.agg (ak s)] Heap.empty R:=by
  intro R fin;refine F.Br ?_;rw [F.Db];simp only [cT (bS s),aq,bU];have g0:(Heap.empty.alloc (.cells (ak s))).get 0=some (.cells (ak s)):=aA _ _;have gn:(Heap.empty.alloc (.cells (ak s))).next=1:=rfl
  generalize (Heap.empty.alloc (.cells (ak s)))=H at g0 gn ⊢;have l0:ag (some 2) (.ptr 0 0) H=some (.agg (ak s)):=by rw [aj g0,bV (cs:=ak s) (n:=2) rfl]
  refine ah (bC lu jN fun b hb=>?_);simp only [aR,reduceAdd,reduceEqDiff,reduceIte]
  cases b with
  |false=>
   simp only [Bool.not_false,aL];exact fin 1 _ (.inl (.inl ⟨.inl fun hg=>(by have:=hb.2 hg;cases this),rfl⟩))
  |true=>
  have hg:=hb.1 rfl;simp only [Bool.not_true,aJ,l0,aq];refine ah (cp lU ?_);simp only [aR,reduceAdd,reduceEqDiff,reduceIte]
  cases vg:cG s with
  |false=>
   simp only [Bool.not_false,aL];exact fin 1 _ (.inl (.inl ⟨.inr vg,rfl⟩))
  |true=>
  obtain ⟨n,hn,n1,xG,h8⟩:=jA vg;have u6:s.size.toNat=n:=by omega
  obtain ⟨m,jL⟩:=hg.go;have z6:=ji jL;have uV:∀ r ∈ rules.l,r.body.l.length<=20:=fun r hr=>(z6 r hr).2.1;have sJ:=hg.mC;have hdl:=oY rules.l;simp only [Bool.not_true,aJ];refine ah (dA sJ fun d hd1=>?_);simp only [aR,reduceAdd,reduceEqDiff,reduceIte,l0];refine ah (cx sJ uV fun sy Xc=>?_)
  have VS:sy.l.length<=1260:=by
   rw [Xc];unfold Gu;rw [length_map];have h1:=xC (eG rules.l) (cB rules.l);have h2:=Aa sJ uV;omega
  simp only [aR,reduceAdd,reduceEqDiff,reduceIte,l0,AV.beq_refl,Bool.and_self,if_true];refine ah (eV lU (by unfold cN;omega) ?_);rw [Xc];simp only [aR,reduceAdd,reduceEqDiff,reduceIte];have e4:Ki rules.l s->DU rules.l s 4:=fun h=>.inr ⟨hg,vg,.inl ⟨h,rfl⟩⟩
  cases hfit:(Gu rules.l).all (BC s) with
  |false=>
   simp only [Bool.not_false,aL];refine fin 4 _ (.inl (e4 (.inl ?_)));exact Decidable.not_not.1 fun h=>by rw [(JT jL vg).2 h] at hfit;cases hfit
  |true=>
  have afm:=(JT jL vg).1 hfit;have hdb:d.l.length<=cN:=by rw [hd1];unfold cN;omega
  have QE:rules.l.length<=cN:=by unfold cN;omega
  simp only [Bool.not_true,aJ];refine aE 0 d.l.length (zero_le _) (fun i e h'=>h'.get 0=some (.cells (ak s))/\1<=h'.next/\(∀ nm ∈ d.l.take i,∀ r ∈ s.aC.l,r.name≠nm)/\e 0=an aO 3 rules/\e 3 = .ptr 0 0/\e 5=an encS 1 d/\e 6 = .int .i64 (i:Int)) ⟨g0,by omega,fun nm xI=>(by cases xI),rfl,rfl,rfl,rfl⟩ ?_ ?_
  ·rintro i e h' _ hi ⟨q0,qn,y9,e0,e3,e5,e6⟩ K' A4 hx hr hp;have hv:d.l[i]?=some d.l[i]:=ep hi;generalize d.l[i]=nm at hv;have Xd:ag (some 2) (.ptr 0 0) h'=some (.agg (ak s)):=by rw [aj q0,bV (cs:=ak s) (n:=2) rfl]
   rw [F.bG.aT];simp only [e3,e5,e6,aR,reduceAdd,reduceEqDiff,reduceIte,bh hi,Xd,aW d hi,jw hv];refine ah (eW lU ?_);simp only [aR,reduceAdd,reduceEqDiff,reduceIte];rcases lK (fU nm) s.aC.l with ⟨f1,f2⟩|⟨j,r,f1,f2,f3⟩
   ·rw [f1];simp only [show decide ((0:Int)<=-1)=false from rfl,aJ,e6,aI hi hdb,aq];refine A4 _ _ ⟨q0,qn,fun x fK r sr e=>?_,e0,e3,e5,rfl⟩;rw [take_add_one,hv] at fK;rcases mem_append.1 fK with fK|fK
    ·exact y9 x fK r sr e
    ·simp only [toList_some,mem_singleton] at fK;rw [find?_eq_none] at f2;exact f2 r sr (by simp [fU,e,fK])
   ·rw [f1];simp only [fE (by omega:(0:Int)<=(j:Int)),aL];rw [hr,F.bG.bB];simp only [bO,reduceEqDiff,reduceIte];have Ej:=find?_some f3;simp only [fU,beq_iff_eq] at Ej;exact fin 4 _ (.inl (e4 (.inr ⟨r,ig f2,(fS _).1 (by rw [Ej,<- hd1];exact ig hv)⟩)))
  ·rintro e h' ⟨q0,qn,y9,e0,e3,e5,e6⟩ K' hx;rw [kC (dL _)] at y9;have ach:¬ ∃ r ∈ s.aC.l,r.name ∈ bE rules.l:=fun ⟨r,hr,hh⟩=>y9 r.name (by rw [hd1];exact (fS _).2 hh) r hr rfl;have h4:¬ Ki rules.l s:=fun h=>h.elim afm ach;have e5':M0 rules.l s->DU rules.l s 5:=fun h=>.inr ⟨hg,vg,.inr ⟨h4,h,rfl⟩⟩;rw [F.bG.aT];simp only [e5,e6,aR,reduceAdd,reduceEqDiff,reduceIte,aX];rw [hx,F.bG.aF];refine aE 0 rules.l.length (zero_le _) (fun i e h2=>h2.get 0=some (.cells (ak s))/\1<=h2.next/\(∀ r ∈ rules.l.take i,n ^ (varsOf r).length<=65536)/\e 0=an aO 3 rules/\e 3 = .ptr 0 0/\e 7 = .int .i64 (i:Int)) ⟨q0,qn,fun r hr=>(by cases hr),e0,e3,rfl⟩ ?_ ?_
   ·rintro i e h2 _ hi ⟨q0,qn,hsz,e0,e3,e7⟩ K2 pH gm rY F5;have hv:rules.l[i]?=some rules.l[i]:=ep hi;generalize rules.l[i]=r at hv;have og:=ig hv;have abY:=(z6 r og).2.2;have Vu:(varsOf r).length<=cN:=by unfold cN;omega
    rw [F.bG.dr];simp only [e0,e7,aR,reduceAdd,reduceEqDiff,reduceIte,bh hi]
    refine lp (fun k e h3=>∃ j,k=(varsOf r).length-j/\j<=(varsOf r).length/\n ^ (j-1)<=65536/\h3.get 0=some (.cells (ak s))/\1<=h3.next/\e 0=an aO 3 rules/\e 3 = .ptr 0 0/\e 7 = .int .i64 (i:Int)/\e 8 = .int .i64 ((n ^ j:Nat):Int)/\e 9 = .int .i64 (j:Int)) ((varsOf r).length)
     ⟨0,rfl,zero_le _,by simp,q0,qn,e0,e3,e7,rfl,rfl⟩ ?_
    rintro k e h3 ⟨j,hk,hj,RH,q0,qn,e0,e3,e7,e8,e9⟩;have lz:ag none (.ptr 0 0) h3=some (.int .i64 (n:Int)):=by rw [aj q0,<- hn];rfl
    have hn8:n ^ j<=65536*64:=by
     cases j with
     |zero=>simp
     |succ j=>rw [Nat.pow_succ];simp only [Nat.add_sub_cancel] at RH;exact Nat.mul_le_mul RH xG
    have out:∀ (e':Env),e' 0=an aO 3 rules->e' 3 = .ptr 0 0->e' 7 = .int .i64 (i:Int)->e' 8 = .int .i64 ((n ^ j:Nat):Int)->(65536<n ^ j\/j=(varsOf r).length)->F.bG.y8 K2 (.exit 4) ⟨e',69,[],h3⟩=true:=by
     intro e' e0 e3 e7 e8 aci;rw [F.bG.iZ];simp only [e8,aR,reduceAdd,reduceEqDiff,reduceIte];by_cases hbg:65536<n ^ j
     ·simp only [fE (by omega:(65536:Int)<((n ^ j:Nat):Int)),aL];rw [rY,F.bG.jG];simp only [bO,reduceEqDiff,reduceIte];exact fin 5 _ (.inl (e5' (.inr (.inr ⟨r,og,by rw [u6];have:=xz n1 hj;omega⟩))))
     ·have hjv:=aci.resolve_left hbg;simp only [eT (by omega:¬ (65536:Int)<((n ^ j:Nat):Int)),aJ,e7,aI hi QE,aq];refine pH _ _ ⟨q0,qn,fun q hq=>?_,e0,e3,rfl⟩;rw [take_add_one,hv] at hq;rcases mem_append.1 hq with hq|hq
      ·exact hsz q hq
      ·simp only [toList_some,mem_singleton] at hq;subst hq;rw [<- hjv];omega
    rw [F.bG.mG];simp only [e0,e7,aR,reduceAdd,reduceEqDiff,reduceIte,aW rules hi,dm gE hv];simp only [aO];refine ah (bM (jN r og) fun x jO=>?_);simp only [aR,reduceAdd,reduceEqDiff,reduceIte,jO,e8,e9];by_cases Nn:j<(varsOf r).length
    ·simp only [bh Nn,aL,aR,reduceAdd,reduceEqDiff,reduceIte];by_cases hle:n ^ j<=65536
     ·have hm:((n ^ j:Nat):Int)*(n:Int)=((n ^ (j+1):Nat):Int):=(by rw [Nat.pow_succ,Int.natCast_mul]);have hmul:n ^ j*n<=65536*64:=Nat.mul_le_mul hle xG;have wI:n ^ (j+1)=n ^ j*n:=Nat.pow_succ n j;have hmm:aG .mul (.int .i64 ((n ^ j:Nat):Int)) (.int .i64 (n:Int))=some (.int .i64 ((n ^ (j+1):Nat):Int)):=by rw [uL (by rw [hm];omega) (by rw [hm];omega),hm]
      simp only [fE (by omega:((n ^ j:Nat):Int)<=65536),aL,e3,e8,e9,aR,reduceAdd,reduceEqDiff,reduceIte,lz,hmm,aI Nn Vu];exact cw.2 ⟨(varsOf r).length-(j+1),by omega,rfl,rfl,j+1,rfl,by omega,by simpa using hle,q0,qn,e0,e3,e7,rfl,rfl⟩
     ·simp only [eT (by omega:¬ ((n ^ j:Nat):Int)<=65536),aJ,oM];exact out _ e0 e3 e7 e8 (.inl (by omega))
    ·have hje:j=(varsOf r).length:=(by omega);simp only [eT (by omega:¬ (j:Int)<((varsOf r).length:Int)),aJ,oM];exact out _ e0 e3 e7 e8 (.inr hje)
   ·rintro e h2 ⟨q0,qn,hsz,e0,e3,e7⟩ K2 gm;rw [kC (dL _)] at hsz;have Xd:ag (some 2) (.ptr 0 0) h2=some (.agg (ak s)):=by rw [aj q0,bV (cs:=ak s) (n:=2) rfl]
    rw [F.bG.dr];simp only [e0,e7,aR,reduceAdd,reduceEqDiff,reduceIte,aX];rw [gm,F.bG.cz];simp only [aR,reduceAdd,reduceEqDiff,reduceIte,e0,e3,Xd];refine ah (fZ sJ uV jL (eo vg).1 fun a h4' rs1 x4 o4 afn=>?_);obtain ⟨rs',acj⟩:∃ rs',rs'=rs1++pq rules.l (eG rules.l):=⟨_,rfl⟩
    rw [<- acj] at o4;have JD:rs'.map bH=s.aC.l.map bH++lD rules.l (eG rules.l):=by rw [acj,map_append,xD,afn]
    simp only [aR,reduceAdd,reduceEqDiff,reduceIte]
    have Wk:(⟨s.size,some rs'⟩:cM).ok:=by
     have hl:rs'.length=s.aC.l.length+(eG rules.l).length:=(by have:=congrArg List.length JD;simpa [lD] using this);refine ⟨by show rs'.length<=cN;unfold cN;omega,fun r hr=>?_⟩;have hd:bH r ∈ s.aC.l.map bH++lD rules.l (eG rules.l):=by rw [<- JD];exact List.mem_map_of_mem hr
     have ack:=(eo vg).2;have akz:=(eo vg).1;rcases mem_append.1 hd with hd|hd
     ·obtain ⟨q,hq,RQ⟩:=mem_map.1 hd;unfold bH at RQ;simp only [Prod.mk.injEq] at RQ;have QS:=ack.2 q hq;refine ⟨by rw [<- RQ.1];exact QS.1,?_,fun t ht=>?_⟩
      ·have h1:=congrArg List.length RQ.2.2;simp only [length_map] at h1;rw [<- h1];exact QS.2.1
      ·have h1:t.l ∈ q.aN.l.map Sl.l:=(by rw [RQ.2.2];exact List.mem_map_of_mem ht);obtain ⟨u,hu,WW⟩:=mem_map.1 h1;rw [<- WW];exact QS.2.2 u hu
     ·obtain ⟨nm,xI,RQ⟩:=mem_map.1 hd;unfold bH at RQ;simp only [Prod.mk.injEq] at RQ;obtain ⟨_,q,hq,Ek,_⟩:=B2 jL ((fS _).1 xI);have ht0:r.aN.l = []:=by have:=RQ.2.2;simpa using this.symm
      refine ⟨by rw [<- RQ.1,<- Ek];have:=Jc (xk (z6 q hq).1);unfold cN;omega,by rw [ht0];exact zero_le _,fun t ht=>by rw [ht0] at ht;cases ht⟩
    refine ah (Fp o4 Wk ?_);simp only [aR,reduceAdd,reduceEqDiff,reduceIte];have hev:=A0 hg jL vg ach JD
    cases hvd:cG ⟨s.size,some rs'⟩ with
    |false=>
     simp only [Bool.not_false,aL];refine fin 5 _ (.inl (e5' ?_));have:(8<s.aC.l.length+(eG rules.l).length\/∃ r ∈ rules.l,4096<s.size.toNat ^ r.args.l.length):=Decidable.not_not.1 fun h=>by rw [hev.2 h] at hvd;cases hvd
     rcases this with h|h
     ·exact .inl h
     ·exact .inr (.inl h)
    |true=>
     simp only [Bool.not_true,aJ];have acm:=hev.1 hvd;refine fin 0 _ (.inr ⟨rfl,hg,vg,h4,?_⟩);rintro (h|h|⟨r,hr,h⟩)
     ·exact acm (.inl h)
     ·exact acm (.inr h)
     ·rw [u6] at h;have:=hsz r hr;omega
 have main:=gen (fun o h'=>yes (∃ e,o = .ret (.int .i64 e)/\(DU rules.l s e\/(e=0/\eX rules.l s)))) (fun e h' he=>cw.2 ⟨e,rfl,he⟩);refine main.frozen (by simp [AV.cL,AV.pure,cj fR,eu]) fun o h' ho=>?_;obtain ⟨e,rfl,he⟩:=cw.1 ho;refine ⟨_,_,rfl,.scalar _ rfl,?_⟩;rcases he with he|⟨rfl,he⟩
 ·exact LM e he
 ·exact zR he
section
variable {rs:List aP} {s:cM} {rs':List Rel} {n:Nat} {m:eF}
theorem Xe(ho:eX rs s)(jL:dS rs []=some m)(JD:rs'.map bH=s.aC.l.map bH++lD rs (eG rs)):JW s.size (rs'.map bH):=by
 have h5:=ho.AZ;have:=(A0 ho.fP jL ho.valid (fun h=>ho.names (.inr h)) JD).2 fun h=>h5 (h.elim .inl fun h=>.inr (.inl h));exact eS.1 this
end
theorem Own.VA{a:AV}{m:List vR}(o:Own ic 3 k h a m){q:vR}(hp:m[i]?=some q)(v:Ob) :
  ∃ b cs,dH 3 a (.int .i64 (i:Int))=some (.ptr b (i*3))/\cD a=some b/\b<h.next/\ag none (.ptr b (i*3+2)) h=some q.2.2.1/\aS 1 (.ptr b (i*3+2)) v.1 h=some (h.set b (.cells cs))/\Own ic 3 k (h.set b (.cells cs)) a (m.set i (q.1,q.2.1,v)):=by
 have hg:=o.get lM hp
 cases o with
 |nil=>simp at hp
 |row b m h1 h2 h3=>
  have hmi:=(jJ.1 hp).1
  have sW:((m.flatMap ic).set (i*3+2) v.1)=(m.set i (q.1,q.2.1,v)).flatMap ic:=by
   clear h3 hg
   have:∀ (m:List vR) (i:Nat) (q:vR),m[i]?=some q->(m.flatMap ic).set (i*3+2) v.1=(m.set i (q.1,q.2.1,v)).flatMap ic:=by
    intro m
    induction m with
    |nil=>intro i q hq;simp at hq
    |cons x m ih=>
     intro i q hq
     cases i with
     |zero=>
      simp at hq;subst hq;rw [set_cons_zero,flatMap_cons,flatMap_cons,set_append_left _ _ (by simp [ic])];rfl
     |succ i=>
      rw [getElem?_cons_succ] at hq;rw [set_cons_succ,flatMap_cons,flatMap_cons,set_append_right _ _ (by rw [lM];omega)];have:(i+1)*3+2-(ic x).length=i*3+2:=by rw [lM];omega
      rw [this,ih i q hq]
   exact this m i q hp
  have hlen:(m.flatMap ic).length=m.length*3:=fX lM m;obtain ⟨b',_,_,i3,_,i5⟩:=hg;have hia:∀ q:IntKind,dH 3 (.slice b 0 m.length 3) (.int q (i:Int))=some (.ptr b (i*3)):=fun q=>by simp [dH,asNat,hmi]
  obtain rfl:b'=b:=by have:=i3 .i64;rw [hia .i64] at this;cases this;rfl
  have ho:=v.2;refine ⟨b',(m.flatMap ic).set (i*3+2) v.1,hia .i64,rfl,h2,by rw [i5 2 (by omega)];rfl,?_,?_⟩
  ·rw [cq (n:=1) h3 (by rw [ho.2];rfl) (by rw [ho.2];exact ho.1) (by rw [hlen];omega),ho.2];rfl
  ·rw [sW];have:m.length=(m.set i (q.1,q.2.1,v)).length:=by rw [length_set]
   rw [this];exact .row b' _ h1 (by rw [Heap.bl];exact h2) (by rw [Heap.aK,if_pos rfl])
end
end Go.AM