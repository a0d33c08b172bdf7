/- Parts of the proof. Conditions: none. -/
import Derived.Test.YtmkffehchicgaaaGreatPf1
import Derived.Test.YtmkffehchicgaaaGreatPf9
import Derived.Test.YtmkffehchicgaaaGreatPf13
import Derived.Test.YtmkffehchicgaaaGreatPf14
set_option linter.unusedSimpArgs false
set_option linter.unusedVariables false
namespace Go.AM
open List Nat Bool Option
open Go Go.Proofs
noncomputable section
variable {h h':ag} {K:Out->ag->Bool} {i b k sz ck:Nat} {α:Type} {a:AV} {es:List Entry} {d:List Int} {m:fy} {n v:Int} {s:bQ}
def pG(n:Int):Bool:=(decide (97<=n)&&decide (n<=122))||(decide (65<=n)&&decide (n<=90))
def zV(n:Int):Bool:=decide (48<=n)&&decide (n<=57)
def words:List bQ:=[[97,110,100],[111,114],[110,111,116],[115,111,109,101],[97,108,108],[108,102,112],[112,102,112],[116,99],[101,120,105,115,116,115],[116,114,117,101],[102,97,108,115,101]]
def Gm(s:bQ):Bool:=words.any fun w=>s==w
theorem A8(hK:K (.ret (.bool (pG n))) h=true):Sem TP 163 [.int .u8 n] h K:=by
 refine F.B0 ?_;rw [F.DH];simp only [yj,AP,aq,cF];unfold pG at hK;by_cases h1:97<=n<;>by_cases h2:n<=122<;>by_cases h3:65<=n<;>by_cases h4:n<=90<;>simpa [h1,h2,h3,h4] using hK
theorem MB(hK:K (.ret (.bool (zV n))) h=true):Sem TP 165 [.int .u8 n] h K:=by
 refine F.DI ?_;rw [F.FF];simp only [yj,AP,aq,cF];unfold zV at hK;by_cases h1:48<=n<;>by_cases h2:n<=57<;>simpa [h1,h2] using hK
theorem A9(hK:K (.ret (.bool (pG n))) h=true):Sem TP 170 [.int .u8 n] h K:=by
 refine F.B1 ?_;rw [F.DJ];simp only [yj,AP,aq,cF];unfold pG at hK;by_cases h1:97<=n<;>by_cases h2:n<=122<;>by_cases h3:65<=n<;>by_cases h4:n<=90<;>simpa [h1,h2,h3,h4] using hK
theorem MC(hK:K (.ret (.bool (zV n))) h=true):Sem TP 172 [.int .u8 n] h K:=by
 refine F.DK ?_;rw [F.FH];simp only [yj,AP,aq,cF];unfold zV at hK;by_cases h1:48<=n<;>by_cases h2:n<=57<;>simpa [h1,h2] using hK
theorem OT(hK:K (.ret (.bool (Gm s))) h=true):Sem TP 164 [.str s] h K:=by
 refine F.FE ?_;rw [F.HL];simp only [Fv,aq,cF];simp only [Gm,words,any_cons,any_nil,Bool.or_false] at hK
 repeat (first|exact hK|(generalize (s==_)=b at hK ⊢;cases b<;>simp only [aF,aE,Bool.true_or,Bool.false_or] at hK ⊢<;>try exact hK))
theorem OU(hK:K (.ret (.bool (Gm s))) h=true):Sem TP 171 [.str s] h K:=by
 refine F.FG ?_;rw [F.HM];simp only [Fv,aq,cF];simp only [Gm,words,any_cons,any_nil,Bool.or_false] at hK
 repeat (first|exact hK|(generalize (s==_)=b at hK ⊢;cases b<;>simp only [aF,aE,Bool.true_or,Bool.false_or] at hK ⊢<;>try exact hK))
def okB(b:UInt8):Bool:=pG b.toNat||zV b.toNat
def eU(s:bQ):Bool:=match s with
 |[]=>false
 |c :: _=>decide (s.length<=12)&&(pG c.toNat&&(!Gm s&&s.all okB))
theorem kj{p:α->Bool}{l:List α}{a:α}(ha:l[i]?=some a)(ht:(l.take i).all p=true)(hp:p a=true):(l.take (i+1)).all p=true:=by
 rw [take_add_one,ha];simp [ht,hp]
theorem all_false{p:α->Bool}{l:List α}{a:α}(ha:l[i]?=some a)(hp:p a=false):l.all p=false:=by
 rw [eq_false_iff];intro h;rw [List.all_eq_true] at h;have:=h a (iA ha);rw [hp] at this;cases this
theorem fq{s:bQ}{h:ag}{K:Out->ag->Bool}(hK:K (.ret (.bool (eU s))) h=true):Sem TP 116 [.str s] h K:=by
 refine F.FC ?_;rw [F.HJ]
 cases s with
 |nil=>simpa [eU,qI,uI,az,af] using hK
 |cons c s'=>
  have h0:(c :: s')[0]?=some c:=rfl;simp only [qI,uI,Kr,aq,cF];have h1:decide (((c :: s').length:Int)<1)=false:=by simp;omega
  simp only [h1,aE];by_cases h2:(c :: s').length<=12
  ·have h3:decide ((12:Int)<((c :: s').length:Int))=false:=by simp at h2 ⊢;omega
   simp only [h3,aE];rw [show mY (.str (c :: s')) (.int .i64 0)=some (.int .u8 (c.toNat:Int)) from EJ (i:=0) h0];simp only [aq];refine aj (A8 ?_);simp only [gJ,rK,aq,cF]
   cases hl:pG c.toNat with
   |false=>simpa [eU,hl] using hK
   |true=>
    simp only [Bool.not_true,aE];refine aj (OT ?_);simp only [gJ,cF]
    cases hw:Gm (c :: s') with
    |true=>simpa [eU,hl,hw] using hK
    |false=>
     simp only [aE];have hn:eU (c :: s')=(c :: s').all okB:=by simp only [eU,hl,hw,Bool.not_false,Bool.true_and];rw [ey h2,Bool.true_and]
     rw [hn] at hK;have h4:((c :: s').take 1).all okB=true:=by simp [okB,hl]
     have h5:1<=(c :: s').length:=(by simp);clear h0 h1 h3 hl hw hn;generalize (c :: s')=s at hK h2 h4 h5 ⊢;refine aG 1 s.length h5 (fun i e h'=>h'=h/\e 0 = .str s/\e 3 = .int .i64 (i:Int)/\(s.take i).all okB=true) ⟨rfl,rfl,rfl,h4⟩ ?_ ?_
     ·rintro i e h' _ hi ⟨rfl,e0,e3,ht⟩ K' hn hx hr hp;have hb:s[i]?=some s[i]:=ec hi;have eM:decide ((i:Int)<(s.length:Int))=true:=by simp;omega
      rw [F.fq.aT];simp only [e0,e3,qI,uI,EJ hb,aq,cF,eM,aF];refine aj (A8 ?_);simp only [gJ,rK,aq,cF]
      cases hl:pG s[i].toNat with
      |true=>
       simp only [Bool.not_true,aE,je (a:=(i:Int)) (b:=1) (by omega) (by omega),aq];exact hn _ _ ⟨rfl,e0,rfl,kj hb ht (by simp [okB,hl])⟩
      |false=>
       simp only [Bool.not_false,aF];refine aj (MB ?_);simp only [gJ,rK,aq,cF]
       cases hd:zV s[i].toNat with
       |true=>
        simp only [Bool.not_true,aE,je (a:=(i:Int)) (b:=1) (by omega) (by omega),aq];exact hn _ _ ⟨rfl,e0,rfl,kj hb ht (by simp [okB,hd])⟩
       |false=>
        simp only [Bool.not_false,aF];rw [hr,F.fq.bt];have:s.all okB=false:=all_false hb (by simp [okB,hl,hd]);rw [this] at hK;exact hK
     ·rintro e h' ⟨rfl,e0,e3,ht⟩ K' hx;have eM:decide ((s.length:Int)<(s.length:Int))=false:=by simp
      rw [F.fq.aT];simp only [e0,e3,qI,uI,aq,cF,eM,aE];rw [hx,F.fq.aJ];rw [kB (dK _)] at ht;rw [ht] at hK;exact hK
  ·have h3:decide ((12:Int)<((c :: s').length:Int))=true:=by simp at h2 ⊢;omega
   simp only [h3,aF];have:eU (c :: s')=false:=by simp only [eU];rw [ep h2];rfl
   rw [this] at hK;exact hK
theorem eS{s:bQ}{h:ag}{K:Out->ag->Bool}(hK:K (.ret (.bool (eU s))) h=true):Sem TP 135 [.str s] h K:=by
 refine F.FD ?_;rw [F.HK]
 cases s with
 |nil=>simpa [eU,Fv,az,af] using hK
 |cons c s'=>
  have h0:(c :: s')[0]?=some c:=rfl;have h1:((c :: s')==([]:bQ))=false:=rfl;simp only [qI,Fv,Kr,aq,cF,h1,aE];by_cases h2:(c :: s').length<=12
  ·have h3:decide ((12:Int)<((c :: s').length:Int))=false:=by simp at h2 ⊢;omega
   simp only [h3,aE];rw [show mY (.str (c :: s')) (.int .i64 0)=some (.int .u8 (c.toNat:Int)) from EJ (i:=0) h0];simp only [aq];refine aj (A9 ?_);simp only [gJ,rK,aq,cF]
   cases hl:pG c.toNat with
   |false=>simpa [eU,hl] using hK
   |true=>
    simp only [Bool.not_true,aE];refine aj (OU ?_);simp only [gJ,cF]
    cases hw:Gm (c :: s') with
    |true=>simpa [eU,hl,hw] using hK
    |false=>
     simp only [aE,qI,aq];have hn:eU (c :: s')=(c :: s').all okB:=by simp only [eU,hl,hw,Bool.not_false,Bool.true_and];rw [ey h2,Bool.true_and]
     rw [hn] at hK;have h4:((c :: s').take 1).all okB=true:=by simp [okB,hl]
     have h5:1<=(c :: s').length:=(by simp);clear h0 h1 h3 hl hw hn;generalize (c :: s')=s at hK h2 h4 h5 ⊢;refine aG 0 s.length (zero_le _) (fun i e h'=>h'=h/\e 0 = .str s/\e 23 = .int .i64 (i:Int)/\e 22 = .int .i64 (s.length:Int)/\(s.take i).all okB=true) ⟨rfl,rfl,rfl,rfl,rfl⟩ ?_ ?_
     ·rintro i e h' _ hi ⟨rfl,e0,e3,KJ,ht⟩ K' hn hx hr hp;have hb:s[i]?=some s[i]:=ec hi;have eM:decide ((i:Int)<(s.length:Int))=true:=by simp;omega
      rw [F.eS.aT];simp only [e0,e3,KJ,qI,uI,EJ hb,aq,cF,eM,aF];refine aj (A9 ?_);simp only [gJ,rK,aq,cF]
      cases hl:pG s[i].toNat with
      |true=>
       simp only [Bool.not_true,aE,je (a:=(i:Int)) (b:=1) (by omega) (by omega),aq];exact hn _ _ ⟨rfl,e0,rfl,KJ,kj hb ht (by simp [okB,hl])⟩
      |false=>
       simp only [Bool.not_false,aF];refine aj (MC ?_);simp only [gJ,rK,aq,cF]
       cases hd:zV s[i].toNat with
       |true=>
        simp only [Bool.not_true,aE,je (a:=(i:Int)) (b:=1) (by omega) (by omega),aq];exact hn _ _ ⟨rfl,e0,rfl,KJ,kj hb ht (by simp [okB,hd])⟩
       |false=>
        simp only [Bool.not_false,aF];rw [hr,F.eS.bt];have:s.all okB=false:=all_false hb (by simp [okB,hl,hd]);rw [this] at hK;exact hK
     ·rintro e h' ⟨rfl,e0,e3,KJ,ht⟩ K' hx;have eM:decide ((s.length:Int)<(s.length:Int))=false:=by simp
      rw [F.eS.aT];simp only [e0,e3,KJ,qI,uI,aq,cF,eM,aE];rw [hx,F.eS.aJ];rw [kB (dK _)] at ht;rw [ht] at hK;exact hK
  ·have h3:decide ((12:Int)<((c :: s').length:Int))=true:=by simp at h2 ⊢;omega
   simp only [h3,aF];have:eU (c :: s')=false:=by simp only [eU];rw [ep h2];rfl
   rw [this] at hK;exact hK
theorem fS{x:Sl Int}(hv:x.l[i]?=some v):ah none (.dI (x.l.flatMap encI) (i*1)) h=some (.int .i64 v):=by
 rw [uH rJ hv];rfl
def iJ(n:Int)(l:List Int):Bool:=l.all fun x=>!decide (x<0)&&!decide (n<=x)
def iv(n:Int):AV:=.int .i64 n
theorem tB(d:List Int):d.map iv=d.flatMap encI:=by
 induction d with
 |nil=>rfl
 |cons a d ih=>rw [map_cons,flatMap_cons,ih];rfl
theorem kF{n:Nat}{k:IntKind}(h:i<n):dg 1 (.slice b 0 n 1) (.int k (i:Int))=some (.ptr b i):=by simp [dg,asNat,h]
theorem oe(hb:h.get b=some (.cells (d.map iv)))(hv:d[i]?=some v):ah none (.ptr b i) h=some (.int .i64 v):=by
 rw [ai hb,nJ,getElem?_map,hv];rfl
theorem pR(hb:h.get b=some (.cells (d.map iv)))(hi:i<d.length):bh 1 (.ptr b i) (.int .i64 v) h=some (h.set b (.cells ((d.set i v).map iv))):=by
 rw [cJ (n:=1) hb rfl rfl (by simp;omega),map_set];rfl
theorem aa0(n:Nat):jL [.int .i64 0] n=(replicate n (0:Int)).map iv:=by
 induction n with
 |zero=>rfl
 |succ n ih=>rw [jL,ih];rfl
theorem uV{n:Nat}(hn:n<=1000000)(h:ag):fo 1 8 [.int .i64 0] (.int .i64 (n:Int)) (.int .i64 (n:Int)) h=some (.slice h.next 0 n 1,h.alloc (.cells ((replicate n (0:Int)).map iv))):=by
 have:(8*(n:Int))<=140737488355328:=by omega
 simp [fo,zw,this,aa0]
theorem Uy(hb:h.get b=some (.cells (d.map iv))):Fz true h (.slice b 0 d.length 1) (an encI 1 (some d)):=by
 refine .slice b 0 d.length 1 _ _ hb (by rw [tB]) fun i x y hx hy=>?_;rw [tB,hy] at hx;cases hx;rw [<- tB,getElem?_map] at hy;obtain ⟨v,hv,rfl⟩:=map_eq_some_iff.1 hy;exact .scalar _ rfl
theorem Uz(a b:Int):∃ v,aL .add (.int .i64 a) (.int .i64 b)=some (.int .i64 v):=⟨_,WX a b⟩
def vY(n:Nat):List Int->Nat->Nat
 |[],r=>r
 |x :: l,r=>vY n l (r*n+x.toNat)
def iy(n:Nat)(l:List Int):Nat:=vY n l 0
inductive Own {α:Type} (enc:α->List AV) (sz k:Nat) (h:ag):AV->List α->Prop
 |nil:Own enc sz k h .au []
 |row (b:Nat) (l:List α):k<=b->b<h.next->h.get b=some (.cells (l.flatMap enc))->Own enc sz k h (.slice b 0 l.length sz) l
variable {α:Type} {enc:α->List AV} {sz k:Nat}
theorem Own.len{l:List α}(o:Own enc sz k h a l):b6 .slice a h'=some (.int .i64 (l.length:Int)):=by
 cases o<;>rfl
theorem Own.ext{l:List α}(o:Own enc sz k h a l)(hx:bG h h'):Own enc sz k h' a l:=by
 cases o with
 |nil=>exact .nil
 |row b l h1 h2 h3=>exact .row b l h1 (Nat.lt_of_lt_of_le h2 hx.next) (by rw [hx.get b h2];exact h3)
theorem Own.get{l:List α}(o:Own enc sz k h a l)(he:∀ x,(enc x).length=sz){v:α}(hv:l[i]?=some v) :
  ∃ b,k<=b/\b<h.next/\(∀ q:IntKind,dg sz a (.int q (i:Int))=some (.ptr b (i*sz)))/\ah (some sz) (.ptr b (i*sz)) h=some (.agg (enc v))/\∀ m,m<sz->ah none (.ptr b (i*sz+m)) h=(enc v)[m]?:=by
 cases o with
 |nil=>simp at hv
 |row b l h1 h2 h3=>
  have hi:=(oB.1 hv).1;refine ⟨b,h1,h2,fun q=>by simp [dg,asNat,hi],?_,fun m hm=>by rw [ai h3,nJ,sN he l i m v hv hm]⟩;rw [ai h3];have hp:=qH he l i v hv;simp only [kC]
  have hlen:i*sz+sz<=(l.flatMap enc).length:=by
   rw [jh he];have:(i+1)*sz<=l.length*sz:=mul_le_mul_right sz hi;rw [succ_mul] at this;exact this
  rw [if_pos (by simpa using hlen),hp]
section
variable {α:Type} {enc:α->List AV} {sz k:Nat}
structure Row (enc:α->List AV) (sz:Nat) (h:ag) (x:AV) (l:List α):Prop where
 len:nS x=some l.length
 cells:jE sz l.length x h=some (l.flatMap enc)
theorem I8(he:∀ x,(enc x).length=sz):∀ (l:List α) (i:Nat),(l.flatMap enc).take (i*sz)=(l.take i).flatMap enc
 |[],i=>by simp
 |x :: l,0=>by simp
 |x :: l,i+1=>by
  rw [flatMap_cons,take_succ_cons,flatMap_cons,take_append,he,succ_mul,Nat.add_sub_cancel,I8 he l i,kB (by rw [he];omega)]
theorem I9(he:∀ x,(enc x).length=sz):∀ (l:List α) (i:Nat),(l.flatMap enc).drop (i*sz)=(l.drop i).flatMap enc
 |[],i=>by simp
 |x :: l,0=>by simp
 |x :: l,i+1=>by
  rw [flatMap_cons,drop_succ_cons,drop_append,he,succ_mul,Nat.add_sub_cancel,I9 he l i,drop_of_length_le (by rw [he];omega),nil_append]
theorem Own.Yl{l:List α}(o:Own enc sz k h a l)(he:∀ x,(enc x).length=sz)(hi:i<=l.length) :
  ∃ x,(∀ q:IntKind,jr (some sz) a none (some (.int q (i:Int)))=some x)/\∀ h',bG h h'->Row enc sz h' x (l.take i):=by
 cases o with
 |nil=>simp at hi;subst hi;exact ⟨.au,fun q=>by simp [jr,nS,rA,asNat],fun h' _=>⟨rfl,rfl⟩⟩
 |row b l h1 h2 h3=>
  refine ⟨.slice b 0 i sz,fun q=>by simp [jr,nS,rA,asNat,hi],fun h' hx=>⟨by simp [nS,Nat.min_eq_left hi],?_⟩⟩;have h3':h'.get b=some (.cells (l.flatMap enc)):=by rw [hx.get b h2];exact h3
  have hl:(l.flatMap enc).length=l.length*sz:=jh he l;have hm:(l.take i).length=i:=by rw [length_take,Nat.min_eq_left hi]
  simp only [jE,h3',if_true,Nat.zero_add,hl,hm,drop_zero];rw [if_pos (mul_le_mul_right sz hi),I8 he]
theorem Own.Ym{l:List α}(o:Own enc sz k h a l)(he:∀ x,(enc x).length=sz)(hi:i<=l.length) :
  ∃ x,(∀ q:IntKind,jr (some sz) a (some (.int q (i:Int))) none=some x)/\∀ h',bG h h'->Row enc sz h' x (l.drop i):=by
 cases o with
 |nil=>simp at hi;subst hi;exact ⟨.au,fun q=>by simp [jr,nS,rA,asNat],fun h' _=>⟨rfl,rfl⟩⟩
 |row b l h1 h2 h3=>
  refine ⟨.slice b (i*sz) (l.length-i) sz,fun q=>by simp [jr,nS,rA,asNat,hi],fun h' hx=>⟨by simp [nS],?_⟩⟩;have h3':h'.get b=some (.cells (l.flatMap enc)):=by rw [hx.get b h2];exact h3
  have hl:(l.flatMap enc).length=l.length*sz:=jh he l;have hm:(l.drop i).length=l.length-i:=by rw [length_drop]
  simp only [jE,h3',if_true,hl,hm];have hle:i*sz+(l.length-i)*sz<=l.length*sz:=by rw [<- Nat.add_mul];exact mul_le_mul_right sz (by omega)
  rw [if_pos hle,I9 he,kB];rw [jh he,hm];exact dK _
theorem xe(h1:∀ x,bE (enc x)=true):∀ l:List α,bE (l.flatMap enc)=true
 |[]=>rfl
 |x :: l=>by
  have app:∀ a b:List AV,bE a=true->bE b=true->bE (a++b)=true:=by
   intro a b ha hb
   induction a with
   |nil=>exact hb
   |cons y a ih=>
    simp only [bE,cons_append,and_eq_true] at ha ⊢;exact ⟨ha.1,ih ha.2⟩
  rw [flatMap_cons];exact app _ _ (h1 x) (xe h1 l)
def eP:AV->Option Nat
 |.slice b _ _ _=>some b
 |_=>none
theorem Own.append{x:AV}{l m:List α}(o:Own enc sz k h a l)(he:∀ x,(enc x).length=sz)(h1:∀ x,bE (enc x)=true)(r:Row enc sz h x m)(hk:k<=h.next){bytes:Nat}(rE:(l.length+m.length)*bytes<=dw) :
  ∃ a' h',cz sz bytes a x h=some (a',h')/\Own enc sz k h' a' (l++m)/\(∀ c,c<h.next->eP a≠some c->h'.get c=h.get c)/\h.next<=h'.next/\(m≠[]->∀ c,eP a'=some c->h.next<=c):=by
 cases o with
 |nil=>
  rw [length_nil,Nat.zero_add] at rE
  cases m with
  |nil=>
   refine ⟨.au,h,?_,.nil,fun _ _ _=>rfl,dK _,fun h=>absurd rfl h⟩;have hc:=r.cells;have hl:=r.len;simp only [length_nil] at hc hl;simp [cz,hl,hc]
  |cons y m=>
   refine ⟨.slice h.next 0 (y :: m).length sz,h.alloc (.cells ((y :: m).flatMap enc)),?_,.row _ _ hk (lt_succ_self _) (aD _ _),fun c hc _=>by rw [ag.aW,if_neg (by omega)],le_succ _,fun _ c hc=>by cases hc;exact dK _⟩;have h0:¬ (y :: m).length=0:=by simp
   simp only [cz,r.len,r.cells,if_neg h0];rw [if_pos (by rw [and_eq_true];exact ⟨ey rE,xe h1 _⟩)]
 |row b l To IK hb3=>
  cases m with
  |nil=>
   rw [append_nil];refine ⟨.slice b 0 l.length sz,h,?_,.row b l To IK hb3,fun _ _ _=>rfl,dK _,fun h=>absurd rfl h⟩;have hc:=r.cells;have hl:=r.len;simp only [length_nil] at hc hl;simp [cz,hl,hc]
  |cons y m=>
   have h0:¬ (y :: m).length=0:=by simp
   have hl:(l.flatMap enc).length=l.length*sz:=jh he l;refine ⟨.slice h.next 0 (l++y :: m).length sz,(h.set b .dead).alloc (.cells ((l++y :: m).flatMap enc)),?_,.row _ _ hk ?_ ?_,fun c hc lF=>?_,?_,fun _ c hc=>by cases hc;exact dK _⟩
   ·simp only [cz,r.len,r.cells,if_neg h0,if_true,hb3,drop_zero,Nat.zero_add];rw [if_pos (by rw [and_eq_true,and_eq_true];exact ⟨⟨ey rE,xe h1 _⟩,ey (by omega)⟩),<- hl,take_length,flatMap_append,length_append]
   ·rw [ag.aV,ag.bq];omega
   ·have:=aD (h.set b .dead) (.cells ((l++y :: m).flatMap enc))
    rwa [ag.bq] at this
   ·rw [ag.aW,ag.bq,if_neg (by omega),ag.aP,if_neg (fun e=>lF (by rw [e];rfl))]
   ·rw [ag.aV,ag.bq];omega
end
theorem rO(s:bQ):bE (encS s)=true:=rfl
def strLt(a b:bQ):Bool:=Op.bytesLess a b
def fR:List bQ->bQ->List bQ
 |[],s=>[s]
 |x :: l,s=>if strLt x s=true then x :: fR l s else if x=s then x :: l else s :: x :: l
theorem Yn(a b:bQ):aL .lss (.str a) (.str b)=some (.bool (strLt a b)):=by simp [aL,strLt]
theorem sR(a b:bQ):(a==b)=decide (a=b):=by
 by_cases h:a=b
 ·subst h;simp
 ·rw [ep h];simp [h]
theorem MD{l:List bQ}{x:bQ}(hx:l[i]?=some x):l.take i++fR (l.drop i) s=if strLt x s=true then l.take (i+1)++fR (l.drop (i+1)) s else if x=s then l else l.take i++(s :: l.drop i):=by
 have h1:=(oB.1 hx).1
 have hd:l.drop i=x :: l.drop (i+1):=by
  rw [drop_eq_getElem_cons h1];rw [ec h1] at hx;cases hx;rfl
 rw [hd,fR];split
 ·rw [take_add_one,hx];simp
 ·split
  ·rw [<- hd,take_append_drop]
  ·rfl
theorem Own.ge{enc:α->List AV}{l:List α}(o:Own enc sz k h a l){c:Nat}(hc:eP a=some c):k<=c:=by
 cases o with
 |nil=>cases hc
 |row b l h1 _ _=>cases hc;exact h1
theorem Own.R3{enc:α->List AV}{j:Nat}{l:List α}(o:Own enc sz k h a l)(hj:j<=k):Own enc sz j h a l:=by
 cases o with
 |nil=>exact .nil
 |row b l h1 h2 h3=>exact .row b l (Nat.le_trans hj h1) h2 h3
theorem fA{k:Nat}{h:ag}{a:AV}{l:List bQ}{s:bQ}(o:Own encS 1 k h a l)(hk:k<=h.next)(hl:l.length<=100000){K:Out->ag->Bool}
  (hK:∀ a' h',bG h h'->Own encS 1 k h' a' (fR l s)->K (.ret a') h'=true):Sem TP 86 [a,.str s] h K:=by
 have j8:l.length<=cu:=by unfold cu;omega
 refine F.B2 ?_;rw [F.DM]
 have app:∀ i,i<=l.length->fR l s=l.take i++(s :: l.drop i)->∀ e:Env,e 0=a->e 1 = .str s->e 5 = .int .i64 (i:Int) ->
   (af (ig [] [] []) fun c11=>
    af (jr (some 1) (e 0) none (some (e 5))) fun x12=>
    af (ig [(.str [])] [(0,1)] [(e 1)]) fun c13=>
    af (jr (some 1) (e 0) (some (e 5)) none) fun x14=>
    de (cz 1 16 (.slice (ag.next h) 0 0 1) x12 (ag.alloc (ag.alloc h (.cells c11)) (.cells c13))) fun x15 h16=>
    de (cz 1 16 x15 (.slice (ag.next (ag.alloc h (.cells c11))) 0 1 1) h16) fun x17 h18=>
    de (cz 1 16 x17 x14 h18) fun x19 tC=>
    K (.ret x19) tC)=true:=by
  intro i hi he e e0 e1 e5;obtain ⟨x12,ajx,r12⟩:=o.Yl jP hi;obtain ⟨x14,ajy,r14⟩:=o.Ym jP hi;rw [show ig [] [] []=some [] from rfl];simp only [aq,e0,e1,e5,ajx,ajy];rw [show ig [(.str [])] [(0,1)] [.str s]=some [.str s] from rfl];simp only [aq];have jG:bG h (ag.alloc (ag.alloc h (.cells [])) (.cells [.str s])):=(bG.alloc _ _).trans (bG.alloc _ _)
  have g0:(ag.alloc (ag.alloc h (.cells [])) (.cells [.str s])).get h.next=some (.cells []):=by
   rw [ag.aW,ag.aV,if_neg (by omega)];exact aD _ _
  have g1:(ag.alloc (ag.alloc h (.cells [])) (.cells [.str s])).get (h.next+1)=some (.cells [.str s]):=aD _ _;have gn:(ag.alloc (ag.alloc h (.cells [])) (.cells [.str s])).next=h.next+2:=rfl
  rw [ag.aV];generalize (ag.alloc (ag.alloc h (.cells [])) (.cells [.str s]))=H at jG g0 g1 gn ⊢;have o0:Own encS 1 h.next H (.slice h.next 0 0 1) ([]:List bQ):=.row h.next [] (dK _) (by omega) g0
  have hm:dw=140737488355328:=rfl;have lt:(l.take i).length=i:=by rw [length_take,Nat.min_eq_left hi]
  have ld:(l.drop i).length=l.length-i:=length_drop;obtain ⟨a1,h1,p1,o1,f1,n1,_⟩:=o0.append jP rO (r12 H jG) (by omega) (bytes:=16) (by rw [hm,lt,length_nil];omega);simp only [p1,iL];have q1:h1.get (h.next+1)=some (.cells [.str s]):=by rw [f1 _ (by omega) (by simp [eP])];exact g1
  have rs:Row encS 1 h1 (.slice (h.next+1) 0 1 1) [s]:=⟨rfl,by simp [jE,q1,encS]⟩
  have e1x:bG h h1:=⟨by have:=jG.next;omega,fun c hc=>by rw [f1 c (by omega) (by simp [eP];omega)];exact jG.get c hc⟩
  obtain ⟨a2,h2,p2,o2,f2,n2,_⟩:=o1.append jP rO rs (by omega) (bytes:=16) (by rw [hm,nil_append,lt];simp;omega);simp only [p2,iL];have e2x:bG h h2:=⟨by have:=e1x.next;omega,fun c hc=>by rw [f2 c (by have:=e1x.next;omega) (fun hb=>by have:=o1.ge hb;omega)];exact e1x.get c hc⟩
  obtain ⟨a3,h3,p3,o3,f3,n3,_⟩:=o2.append jP rO (r14 h2 e2x) (by have:=e2x.next;omega) (bytes:=16) (by rw [hm,ld,nil_append,length_append,lt];simp;omega);simp only [p3,iL];have e3x:bG h h3:=⟨by have:=e2x.next;omega,fun c hc=>by rw [f3 c (by have:=e2x.next;omega) (fun hb=>by have:=o2.ge hb;omega)];exact e2x.get c hc⟩
  refine hK a3 h3 e3x ?_;rw [he];have:=o3.R3 hk;rw [nil_append,append_assoc] at this;exact this
 have get:∀ (i:Nat) (x:bQ),l[i]?=some x->∃ b,(∀ q:IntKind,dg 1 a (.int q (i:Int))=some (.ptr b (i*1)))/\ah none (.ptr b (i*1)) h=some (.str x):=fun i x hx=>by
  obtain ⟨b,_,_,h3,_,h5⟩:=o.get jP hx;exact ⟨b,h3,by have:=h5 0 (by omega);rw [Nat.add_zero] at this;rw [this];rfl⟩
 refine aG 0 l.length (zero_le _) (fun i e h'=>h'=h/\e 0=a/\e 1 = .str s/\e 5 = .int .i64 (i:Int)/\fR l s=l.take i++fR (l.drop i) s) ⟨rfl,rfl,rfl,rfl,rfl⟩ ?_ ?_
 ·rintro i e h' _ hi ⟨rfl,e0,e1,e5,ht⟩ K' hn hx hr hp;have hv:l[i]?=some l[i]:=ec hi;generalize l[i]=x at hv;obtain ⟨b,g1,g2⟩:=get i x hv;rw [MD hv] at ht;rw [F.fA.aT];simp only [e0,e1,e5,o.len,aS,reduceAdd,reduceEqDiff,reduceIte,bl hi,g1,g2,Yn]
  cases eM:strLt x s with
  |true=>
   rw [if_pos eM] at ht;simp only [aF,aK hi j8,aq];exact hn _ _ ⟨rfl,e0,e1,rfl,ht⟩
  |false=>
   rw [if_neg (by rw [eM];decide)] at ht;simp only [aE];rw [hx,F.fA.aJ];simp only [aS,reduceAdd,reduceEqDiff,reduceIte,e0,e1,e5,o.len,bl hi,g1,g2,aF,sR];by_cases Tp:x=s
   ·rw [if_pos Tp] at ht;simp only [ey Tp,aF];exact hK _ _ (bG.refl _) (by rw [ht];exact o)
   ·rw [if_neg Tp] at ht;simp only [ep Tp,aE];have:=app i (Nat.le_of_lt hi) ht e e0 e1 e5;simp only [e0,e1,e5] at this;exact this
 ·rintro e h' ⟨rfl,e0,e1,e5,ht⟩ K' hx;rw [F.fA.aT];simp only [e0,e5,o.len,aS,reduceAdd,reduceEqDiff,reduceIte,aX];rw [hx,F.fA.aJ];simp only [aS,reduceAdd,reduceEqDiff,reduceIte,e0,e1,e5,o.len,aX,aE];have:=app l.length (dK _) (by rw [ht,drop_of_length_le (dK _)];rfl) e e0 e1 e5;simp only [e0,e1,e5] at this;exact this
structure kq (es:List Entry) (ck:Nat):Prop where
 nodup:(es.map (·.2.2)).Nodup
 lt:∀ e ∈ es,e.2.2<ck
theorem kq.nil(ck:Nat):kq [] ck:=⟨nodup_nil,fun _ h=>by cases h⟩
theorem kq.push(b:kq es ck)(k v:AV):kq (es++[(k,v,ck)]) (ck+1):=by
 refine ⟨?_,fun e he=>?_⟩
 ·rw [map_append,nodup_append];refine ⟨b.nodup,by simp,fun a ha c hc=>?_⟩;rw [mem_map] at ha;obtain ⟨e,he,rfl⟩:=ha;have:=b.lt e he;simp at hc;omega
 ·rw [mem_append] at he;rcases he with he|he
  ·have:=b.lt e he;omega
  ·simp at he;rw [he];exact lt_succ_self _
theorem ME(es:List Entry)(i:Nat)(v:AV):(fG es i v).map (·.2.2)=es.map (·.2.2):=by
 unfold fG
 cases h:es[i]? with
 |none=>rfl
 |some e=>
  simp only [map_set];apply ext_getElem?;intro j;by_cases hj:i=j
  ·subst hj;have hi:=(oB.1 h).1;rw [getElem?_set_self (by simpa using hi),getElem?_map,h];rfl
  ·rw [getElem?_set_ne hj]
theorem kq.set(b:kq es ck)(i:Nat)(v:AV):kq (fG es i v) ck:=by
 refine ⟨by rw [ME];exact b.nodup,fun e he=>?_⟩;have:e.2.2 ∈ (fG es i v).map (·.2.2):=List.mem_map_of_mem he;rw [ME,mem_map] at this;obtain ⟨e',TZ,h⟩:=this;rw [<- h];exact b.lt e' TZ
theorem ze{d:TypeDesc}{wD:List Entry}{EK:Nat}{k v:AV}(hb:h.get b=some (.map es ck))(hB:kq es ck)(hu:fT d (.map b) k v h=some h')(hg:h'.get b=some (.map wD EK)):kq wD EK:=by
 simp only [fT,hb] at hu;split at hu
 ·cases hu;rw [ag.aP,if_pos rfl] at hg;cases hg;exact hB.set _ _
 ·cases hu;rw [ag.aP,if_pos rfl] at hg;cases hg;exact hB.push k v
 ·cases hu
abbrev nW:=List (bQ×AV)
def nW.find(m:nW)(k:bQ):Option AV:=(List.find? (fun p=>k==p.1) m).map (·.2)
def nW.tP:nW->bQ->AV->nW
 |[],k,v=>[(k,v)]
 |p :: m,k,v=>if k==p.1 then (p.1,v) :: m else p :: nW.tP m k v
def qL:List Entry->nW->Prop
 |[],[]=>True
 |e :: es,p :: m=>e.1 = .str p.1/\e.2.1=p.2/\qL es m
 |_,_=>False
theorem qL.jB{k:bQ}:∀ {es:List Entry} {m:nW} (i:Nat),qL es m->∃ r,jB .string (.str k) es i=some r/\match r with
  |none=>m.find k=none
  |some (j,v)=>∃ n,j=i+n/\m.find k=some v/\∀ w,qL (fG es n w) (m.tP k w)
 |[],[],i,_=>⟨none,rfl,rfl⟩
 |e :: es,p :: m,i,⟨h1,h2,h3⟩=>by
  obtain ⟨ek,ev,en⟩:=e;simp only at h1 h2;subst h1;subst h2;by_cases hk:k=p.1
  ·subst hk;refine ⟨some (i,p.2),by simp [Go.AM.jB,yW],0,rfl,by simp [nW.find],fun w=>?_⟩;simp [fG,qL,nW.tP,h3]
  ·obtain ⟨r,hr,hm⟩:=qL.jB (k:=k) (i+1) h3;have WY:(k==p.1)=false:=by simpa using hk
   refine ⟨r,by simp only [Go.AM.jB,yW,WY,hr],?_⟩
   cases r with
   |none=>simpa [nW.find,hk] using hm
   |some jv=>
    obtain ⟨n,a,b,e⟩:=hm;refine ⟨n+1,by omega,by simpa [nW.find,hk] using b,fun w=>?_⟩;have:=e w;simp only [fG,getElem?_cons_succ,nW.tP,WY] at this ⊢;split at this<;>simp_all [qL]
theorem qL.append{m:nW}(h:qL es m){k:bQ}(hk:m.find k=none)(v:AV)(n:Nat):qL (es++[(.str k,v,n)]) (m.tP k v):=by
 induction es generalizing m with
 |nil=>cases m with
  |nil=>simp [qL,nW.tP]
  |cons p m=>exact h.elim
 |cons e es ih=>cases m with
  |nil=>exact h.elim
  |cons p m=>
   obtain ⟨h1,h2,h3⟩:=h;have lF:k≠p.1:=fun e=>by subst e;simp [nW.find] at hk
   have ZD:nW.find m k=none:=by simpa [nW.find,lF] using hk
   have:=ih h3 ZD;simp only [cons_append,nW.tP];rw [if_neg (by simpa using lF)];exact ⟨h1,h2,this⟩
theorem Ba{l:List bQ}(o:Own encS 1 k h a l){x:bQ}(hx:l[i]?=some x) :
  ∃ b,b<h.next/\(∀ q:IntKind,dg 1 a (.int q (i:Int))=some (.ptr b (i*1)))/\ah none (.ptr b (i*1)) h=some (.str x):=by
 obtain ⟨b,_,h2,h3,_,h5⟩:=o.get jP hx;exact ⟨b,h2,h3,by have:=h5 0 (by omega);rw [Nat.add_zero] at this;rw [this];rfl⟩
theorem xg{p:α->Bool}{l:List α}{a:α}(ha:l[i]?=some a)(ht:(l.take i).any p=false)(hp:p a=false):(l.take (i+1)).any p=false:=by
 rw [take_add_one,ha];simp [ht,hp]
theorem dY{k:Nat}{h:ag}{a:AV}{l:List bQ}{s:bQ}(o:Own encS 1 k h a l)(hl:l.length<=cu){K:Out->ag->Bool}(hK:K (.ret (.bool (l.any fun x=>x==s))) h=true):Sem TP 73 [a,.str s] h K:=by
 refine F.vz ?_;rw [F.wP];refine aG 0 l.length (zero_le _) (fun i e h'=>h'=h/\e 0=a/\e 1 = .str s/\e 5 = .int .i64 (i:Int)/\((l.take i).any fun x=>x==s)=false) ⟨rfl,rfl,rfl,rfl,rfl⟩ ?_ ?_
 ·rintro i e h' _ hi ⟨rfl,e0,e1,e5,ht⟩ K' hn hx hr hp;have hv:l[i]?=some l[i]:=ec hi;generalize l[i]=x at hv;obtain ⟨b,_,g1,g2⟩:=Ba o hv;rw [F.dY.aT];simp only [e0,e1,e5,o.len,aS,reduceAdd,reduceEqDiff,reduceIte,bl hi,g1,g2]
  cases hq:x==s with
  |true=>
   simp only [aF];rw [hr,F.dY.bt];simp only [bg,reduceEqDiff,reduceIte];rw [List.any_eq_true.2 ⟨x,iA hv,hq⟩] at hK;exact hK
  |false=>
   simp only [aE,aK hi hl,aq];exact hn _ _ ⟨rfl,e0,e1,rfl,xg hv ht hq⟩
 ·rintro e h' ⟨rfl,e0,e1,e5,ht⟩ K' hx;rw [F.dY.aT];simp only [e0,e5,o.len,aS,reduceAdd,reduceEqDiff,reduceIte,aX];rw [hx,F.dY.aJ];rw [kB (dK _)] at ht;rw [ht] at hK;exact hK
theorem Own.push{enc:α->List AV}{l:List α}(o:Own enc sz k h a l)(he:∀ x,(enc x).length=sz)(h1:∀ x,bE (enc x)=true)(hk:k<=h.next){bytes:Nat}(rE:(l.length+1)*bytes<=dw)(v:α) :
  ∃ a' h',cz sz bytes a (.slice h.next 0 1 sz) (h.alloc (.cells (enc v)))=some (a',h')/\Own enc sz k h' a' (l++[v])/\(∀ c,c<h.next->eP a≠some c->h'.get c=h.get c)/\h.next<=h'.next/\(∀ h0,bG h0 h->h0.next<=k->bG h0 h')/\∀ c,eP a'=some c->h.next<=c:=by
 have g:=aD h (.cells (enc v));have hn:(h.alloc (.cells (enc v))).next=h.next+1:=ag.aV h _
 have hx:bG h (h.alloc (.cells (enc v))):=bG.alloc _ _
 have r:Row enc sz (h.alloc (.cells (enc v))) (.slice h.next 0 1 sz) [v]:=by
  refine ⟨rfl,?_⟩;have hl:(enc v).length=sz:=he v;simp only [jE,g,if_true,length_singleton,Nat.one_mul,Nat.zero_add,hl,dK,drop_zero];rw [<- hl,take_length];simp
 obtain ⟨a',h',p,o',f,n,hf⟩:=(o.ext hx).append he h1 r (by omega) (bytes:=bytes) (by simpa using rE);have f':∀ c,c<h.next->eP a≠some c->h'.get c=h.get c:=fun c hc hb=>by rw [f c (by omega) hb];exact hx.get c hc
 refine ⟨a',h',p,o',f',by omega,fun h0 e0 hk0=>⟨by have:=e0.next;omega,fun c hc=>?_⟩,fun c hc=>by have:=hf (by simp) c hc;omega⟩;rw [f' c (by have:=e0.next;omega) (fun hb=>by have:=o.ge hb;omega)];exact e0.get c hc
def qq(y:bQ×Int):List AV:=[.str y.1,.int .i64 y.2]
theorem rP(y:bQ×Int):(qq y).length=2:=rfl
theorem UA(s:bQ)(n:Int):jM [.str [],.int .i64 0] [(0,1),(1,1)] [.str s,.int .i64 n]=some (.agg (qq (s,n))):=rfl
theorem UB(y:bQ×Int):ig [.str [],.int .i64 0] [(0,2)] [.agg (qq y)]=some (qq y):=rfl
theorem Own.MF{enc:α->List AV}{l:List α}(o:Own enc sz k h a l)(hf:∀ v,∀ x ∈ enc v,Fz true h x x):∃ x:Sl α,x.l=l/\Fz true h a (an enc sz x):=by
 cases o with
 |nil=>exact ⟨none,rfl,.dP rfl⟩
 |row b l h1 h2 h3=>
  refine ⟨some l,rfl,.slice b 0 l.length sz _ _ h3 rfl fun i x y hx hy=>?_⟩;rw [hx] at hy;cases hy;have:=iA hx;rw [mem_flatMap] at this;obtain ⟨v,hv,WA⟩:=this;exact hf v x WA
theorem Own.uW{enc:α->List AV}{l:List α}(o:Own enc sz k h a l){d:Nat}(hd:d<k)(x:mP):Own enc sz k (h.set d x) a l:=by
 cases o with
 |nil=>exact .nil
 |row b _ w1 w2 w3=>exact .row b l w1 (by rw [ag.bq];exact w2) (by rw [ag.aP,if_neg (by omega)];exact w3)
theorem yq(m:fy)(k j:bQ)(v:Int):(m.tP k v).find j=if j=k then some v else m.find j:=by
 induction m with
 |nil=>
  simp only [fy.tP,fy.find,find?_cons,find?_nil];by_cases h:j=k
  ·subst h;simp
  ·have:(j==k)=false:=by simpa using h
   rw [this,if_neg h]
 |cons p m ih=>
  simp only [fy.tP];by_cases hk:k=p.1
  ·rw [if_pos (by simpa using hk)];subst hk;simp only [fy.find,find?_cons];by_cases h:j=p.1
   ·subst h;simp
   ·have:(j==p.1)=false:=by simpa using h
    rw [this,if_neg h]
  ·rw [if_neg (by simpa using hk)];simp only [fy.find,find?_cons] at ih ⊢;by_cases h:j=p.1
   ·subst h;simp only [beq_self_eq_true,map_some];rw [if_neg (Ne.symm hk)]
   ·have:(j==p.1)=false:=by simpa using h
    rw [this];exact ih
theorem MG(m:fy)(k:bQ)(v:Int):(m.tP k v).map (·.1)=if k ∈ m.map (·.1) then m.map (·.1) else m.map (·.1)++[k]:=by
 induction m with
 |nil=>simp [fy.tP]
 |cons p m ih=>
  simp only [fy.tP];by_cases hk:k=p.1
  ·rw [if_pos (by simpa using hk)];subst hk;simp
  ·rw [if_neg (by simpa using hk),map_cons,ih];by_cases hm:k ∈ m.map (·.1)
   ·rw [if_pos hm,if_pos (by rw [map_cons];exact mem_cons_of_mem _ hm)];rfl
   ·rw [if_neg hm,if_neg (by rw [map_cons,mem_cons];exact fun h=>h.elim hk hm)];rfl
theorem Ja(hm:(m.map (·.1)).Nodup)(k:bQ)(v:Int):((m.tP k v).map (·.1)).Nodup:=by
 rw [MG];split
 ·exact hm
 ·rename_i h;rw [nodup_append];exact ⟨hm,by simp,fun a ha b hb=>by simp at hb;subst hb;exact fun e=>h (e▸ha)⟩
theorem tY{k:bQ}(h:m.find k=some v):(k,v) ∈ m:=by
 unfold fy.find at h;obtain ⟨p,hp,rfl⟩:=map_eq_some_iff.1 h;have h1:=mem_of_find?_eq_some hp;have h2:=find?_some hp;simp only [beq_iff_eq] at h2;subst h2;exact h1
theorem yt(hm:(m.map (·.1)).Nodup){p:bQ×Int}(hp:p ∈ m):m.find p.1=some p.2:=by
 induction m with
 |nil=>cases hp
 |cons q m ih=>
  rw [map_cons,nodup_cons] at hm;simp only [fy.find,find?_cons];rcases mem_cons.1 hp with rfl|hp
  ·simp
  ·have:(p.1==q.1)=false:=by
    simp only [beq_eq_false_iff_ne];exact fun e=>hm.1 (e▸List.mem_map_of_mem hp)
   rw [this];exact ih hm.2 hp
theorem mF.mem:∀ {es:List Entry} {m:fy},mF es m->∀ e ∈ es,∃ p ∈ m,e.1 = .str p.1/\e.2.1 = .int .i64 p.2
 |[],_,_,e,he=>by cases he
 |e0 :: es,[],h,_,_=>h.elim
 |e0 :: es,p :: m,⟨h1,h2,h3⟩,e,he=>by
  rcases mem_cons.1 he with rfl|he
  ·exact ⟨p,mem_cons_self,h1,h2⟩
  ·obtain ⟨q,hq,r⟩:=mF.mem h3 e he;exact ⟨q,mem_cons_of_mem _ hq,r⟩
theorem nt{z v:AV}(h1:v.eN = [v])(hv:bE [v]=true):∃ h',bh 1 (.ptr h.next 0) v (h.alloc (.cells [z]))=some h'/\h'.get h.next=some (.cells [v])/\(∀ b,b≠h.next->h'.get b=h.get b)/\h'.next=h.next+1:=by
 refine ⟨_,by rw [cJ (n:=1) (aD _ _) (by rw [h1];rfl) (by rw [h1];exact hv) (by simp),h1],?_,fun b hb=>?_,by rw [ag.bq,ag.aV]⟩
 ·rw [ag.aP,if_pos rfl];rfl
 ·rw [ag.aP,if_neg hb,ag.aW,if_neg hb]
theorem uX{x s:bQ}:∀ {l:List bQ},x ∈ fR l s↔x ∈ l\/x=s
 |[]=>by simp [fR]
 |a :: l=>by
  rw [fR];split
  ·rw [mem_cons,uX (l:=l),mem_cons,_root_.or_assoc]
  ·split
   ·rename_i h;subst h;rw [mem_cons];exact ⟨fun h=>.inl h,fun h=>h.elim id .inl⟩
   ·rw [mem_cons];exact Or.comm
theorem Fz.OV{old:Bool}{v r:AV}(hr:r.scalar=true)(hf:Fz old h v r):v=r:=by
 cases hf<;>first|rfl|(simp [AV.scalar] at hr)
theorem Sem.MH{P:Program}{f:FuncId}{args zb:List AV}{r:AV}(hr:r.scalar=true)(hs:Sem P f zb ag.empty (qm r))(hp:kD true h args zb)(hK:K (.ret r) h=true):Sem P f args h K:=
 hs.WV hp fun o h' ho=>by
  obtain ⟨v,rfl,hf⟩:=cO.1 ho;obtain rfl:=hf.OV hr;exact ⟨_,_,rfl,.scalar _ hr,hK⟩
theorem og{old:Bool}(hb:h.get b=some (.cells (d.map iv))):Fz old h (.slice b 0 d.length 1) (an encI 1 (some d)):=by
 refine .slice b 0 d.length 1 _ _ hb (by rw [tB]) fun i x y hx hy=>?_;rw [tB,hy] at hx;cases hx;rw [<- tB,getElem?_map] at hy;obtain ⟨v,hv,rfl⟩:=map_eq_some_iff.1 hy;exact .scalar _ rfl
theorem Own.lt{enc:α->List AV}{l:List α}(o:Own enc sz k h a l){c:Nat}(hc:eP a=some c):c<h.next:=by
 cases o with
 |nil=>cases hc
 |row b l h1 h2 h3=>cases hc;exact h2
theorem KK[BEq α][LawfulBEq α]{l m:List α}{a b:α}(ha:l[i]?=some a)(hb:m[i]?=some b):(l.drop i==m.drop i)=((a==b)&&(l.drop (i+1)==m.drop (i+1))):=by
 have h1:=(oB.1 ha).1;have h2:=(oB.1 hb).1;rw [drop_eq_getElem_cons h1,drop_eq_getElem_cons h2];rw [ec h1] at ha;rw [ec h2] at hb;cases ha;cases hb;rfl
theorem fc{x y:Sl Int}(hx:x.l.length<=cu){h:ag}{K:Out->ag->Bool}(hK:K (.ret (.bool (x.l==y.l))) h=true):Sem TP 35 [an encI 1 x,an encI 1 y] h K:=by
 refine F.DL ?_;rw [F.FI];simp only [aS,reduceAdd,reduceEqDiff,reduceIte,ct];by_cases hl:x.l.length=y.l.length
 ·simp only [ey (by omega:(x.l.length:Int)=(y.l.length:Int)),Bool.not_true,aE];refine aG 0 x.l.length (zero_le _) (fun i e h'=>h'=h/\e 0=an encI 1 x/\e 1=an encI 1 y/\e 5 = .int .i64 (i:Int)/\(x.l==y.l)=(x.l.drop i==y.l.drop i)) ⟨rfl,rfl,rfl,rfl,rfl⟩ ?_ ?_
  ·rintro i e h' _ hi ⟨rfl,e0,e1,e5,ht⟩ K' hn iY hr hp;have NT:i<y.l.length:=by omega
   have hv:x.l[i]?=some x.l[i]:=ec hi;have hw:y.l[i]?=some y.l[i]:=ec NT;rw [KK hv hw] at ht;generalize x.l[i]=a at hv ht;generalize y.l[i]=b at hw ht;rw [F.fc.aT];simp only [e0,e1,e5,aS,reduceAdd,reduceEqDiff,reduceIte,bl hi,aU x hi,aU y NT,fS hv,fS hw]
   cases hq:a==b with
   |false=>
    simp only [Bool.not_false,aF];rw [hr,F.fc.bt];simp only [bg,reduceEqDiff,reduceIte];rw [ht,hq] at hK;exact hK
   |true=>
    simp only [Bool.not_true,aE,aK hi hx,aq];exact hn _ _ ⟨rfl,e0,e1,rfl,by rw [ht,hq,Bool.true_and]⟩
  ·rintro e h' ⟨rfl,e0,e1,e5,ht⟩ K' iY;rw [F.fc.aT];simp only [e0,e5,aS,reduceAdd,reduceEqDiff,reduceIte,aX];rw [iY,F.fc.aJ];rw [drop_of_length_le (dK _),drop_of_length_le (by omega)] at ht;rw [ht] at hK;exact hK
 ·simp only [ep (by omega:¬ (x.l.length:Int)=(y.l.length:Int)),Bool.not_false,aF]
  have:(x.l==y.l)=false:=by
   simp only [beq_eq_false_iff_ne];exact fun e=>hl (congrArg List.length e)
  rw [this] at hK;exact hK
theorem yu:∀ a:bQ,strLt a a=false
 |[]=>rfl
 |x :: a=>by
  have:=yu a;unfold strLt at this ⊢;simp [Op.bytesLess,this]
theorem Dh:∀ {a b c:bQ},strLt a b=true->strLt b c=true->strLt a c=true
 |_,[],_,h,_=>by unfold strLt at h;simp [Op.bytesLess] at h
 |_,_ :: _,[],_,h=>by unfold strLt at h;simp [Op.bytesLess] at h
 |[],_ :: _,_ :: _,_,_=>rfl
 |x :: a,y :: b,z :: c,h1,h2=>by
  have ih:=@Dh a b c;unfold strLt at h1 h2 ih ⊢;simp only [Op.bytesLess,or_eq_true,decide_eq_true_eq,and_eq_true,beq_iff_eq] at h1 h2 ⊢;rcases h1 with h1|⟨rfl,h1⟩<;>rcases h2 with h2|⟨rfl,h2⟩
  ·exact .inl (UInt8.lt_trans h1 h2)
  ·exact .inl h1
  ·exact .inl h2
  ·exact .inr ⟨rfl,ih h1 h2⟩
theorem Jb:∀ {a b:bQ},strLt a b=false->a≠b->strLt b a=true
 |[],[],_,h=>absurd rfl h
 |[],_ :: _,h,_=>by unfold strLt at h;simp [Op.bytesLess] at h
 |_ :: _,[],_,_=>rfl
 |x :: a,y :: b,h1,h2=>by
  have ih:=@Jb a b;unfold strLt at h1 ih ⊢;simp only [Op.bytesLess,or_eq_false_iff,decide_eq_false_iff_not,and_eq_false_iff,beq_eq_false_iff_ne] at h1;simp only [Op.bytesLess,or_eq_true,decide_eq_true_eq,and_eq_true,beq_iff_eq];obtain ⟨h3,h4⟩:=h1;by_cases e:x=y
  ·subst e;rcases h4 with h4|h4
   ·exact absurd rfl h4
   ·exact .inr ⟨rfl,ih h4 (fun h=>h2 (by rw [h]))⟩
  ·refine .inl ?_;rcases UInt8.lt_or_lt_of_ne e with h|h
   ·exact absurd h h3
   ·exact h
def Bc(l:List bQ):Prop:=l.Pairwise fun a b=>strLt a b=true
theorem zf:∀ {l:List bQ},Bc l->∀ s,Bc (fR l s)
 |[],_,s=>pairwise_singleton _ _
 |x :: l,h,s=>by
  obtain ⟨h1,h2⟩:=pairwise_cons.1 h;rw [fR];split
  ·rename_i hx;refine pairwise_cons.2 ⟨fun y hy=>?_,zf h2 s⟩;rcases uX.1 hy with hy|rfl
   ·exact h1 y hy
   ·exact hx
  ·rename_i hx;split
   ·exact h
   ·rename_i lF;have hsx:strLt s x=true:=Jb (by simpa using hx) lF;refine pairwise_cons.2 ⟨fun y hy=>?_,h⟩;rcases mem_cons.1 hy with rfl|hy
    ·exact hsx
    ·exact Dh hsx (h1 y hy)
theorem xh(hb:h.get b=some (.map es ck))(hm:mF es m)(k:bQ) :
  dc .string (.int .i64 0) false (.map b) (.str k) h=some (.int .i64 ((m.find k).getD 0)):=by
 obtain ⟨r,hr,oE⟩:=mF.jB (k:=k) 0 hm;simp only [dc,lH,hb,pK,pJ,if_true,hr]
 cases r with
 |none=>simp at oE;simp [oE]
 |some jv=>
  obtain ⟨n,q,_,b,c,_⟩:=oE;obtain ⟨j,v⟩:=jv;simp only at c;subst c;simp [b]
end
end Go.AM
namespace Go.AM
open List Nat Bool Option
open Go Go.Proofs
noncomputable section
variable {K:Out->ag->Bool} {h h':ag} {D:bQ->Option (Nat×List Bool)} {n k M V b base S B sz j N0 N1 N4 P3 P5 P6 PL:Nat} {hs ks o:List bQ} {lv:eL.Lv} {vs:List Int} {s nm:bQ} {i0 v:Int} {g ng:FuncId} {α σ:Type} {p:Nat×List Bool} {a cW lW:AV} {x xs:Sl bQ} {d:List Bool} {ga gb na nb:List AV}
theorem KL{enc:α->List AV}(he:∀ a,(enc a).length=sz)(x:Sl α)(h:ag):Row enc sz h (an enc sz x) x.l:=by
 cases x with
 |none=>exact ⟨rfl,rfl⟩
 |some l=>
  refine ⟨rfl,?_⟩;have hl:(l.flatMap enc).length=l.length*sz:=jh he l;simp only [an,jE,Sl.OL,Nat.zero_add,hl,beq_self_eq_true,dK,decide_true,Bool.and_self,if_true,drop_zero];rw [<- hl,take_length]
structure dD where
 kind:Int
 neg:Bool
 name:bQ
 args:Sl bQ
structure aR where
 name:bQ
 args:Sl bQ
 body:Sl dD
def bR(c:dD):List AV:=[.int .i64 c.kind,.bool c.neg,.str c.name,an encS 1 c.args]
def kr(nm:bQ)(xs:Sl bQ):List AV:=[.str nm,an encS 1 xs]
def aO(r:aR):List AV:=[.str r.name,an encS 1 r.args,an bR 4 r.body]
theorem gh(c:dD):(bR c).length=4:=rfl
theorem ei(r:aR):(aO r).length=3:=rfl
theorem Gn(c:dD):AV.cN (bR c)=true:=by simp [bR,AV.cN,AV.pure,bI jk]
theorem dW(r:aR):AV.cN (aO r)=true:=by simp [aO,AV.cN,AV.pure,bI jk,bI Gn]
theorem Cn(nm:bQ)(xs:Sl bQ):bE (kr nm xs)=true:=by
 unfold kr;simp only [bE,mj,Bool.and_true];rfl
theorem gQ(c:dD):bE (bR c)=true:=by
 unfold bR;simp only [bE,mj,Bool.and_true];rfl
theorem jJ(r:aR):bE (aO r)=true:=by
 unfold aO;simp only [bE,mj,Bool.and_true];rfl
def dD.ok(c:dD):Prop:=c.name.length<=cu/\c.args.l.length<=cu/\∀ s ∈ c.args.l,s.length<=cu
def aR.ok(r:aR):Prop:=r.name.length<=cu/\r.args.l.length<=cu/\(∀ s ∈ r.args.l,s.length<=cu)/\r.body.l.length<=cu/\∀ c ∈ r.body.l,c.ok
theorem QG(a b c d:AV):kC (some 2) [a,b,c,d] 2=some (.agg [c,d]):=rfl
theorem QH(a b c:AV):kC (some 2) [a,b,c] 0=some (.agg [a,b]):=rfl
theorem EL(a b c d:AV):kC (some 4) [a,b,c,d] 0=some (.agg [a,b,c,d]):=rfl
theorem om(a b c:AV):kC (some 3) [a,b,c] 0=some (.agg [a,b,c]):=rfl
theorem jz{i:Nat}{v:bQ}(hv:x.l[i]?=some v):ah none (.dI (x.l.flatMap encS) (i*1)) h=some (.str v):=by
 rw [uH jP hv];rfl
theorem Ii(hx:x.l.length<=cu){a b:List AV}{p:bQ->Bool}(hp:∀ (v:bQ) (K:Out->ag->Bool),K (.ret (.bool (p v))) h=true->Sem TP g (a++([.str v]++b)) h K)
  (hK:∀ n:Int,decide (0<=n)=x.l.any p->K (.ret (.int .i64 n)) h=true):Sem TP 190 [an encS 1 x,.func g a b] h K:=by
 refine F.mG ?_;rw [F.mS];simp only [aS,reduceAdd,reduceEqDiff,reduceIte];refine aG 0 x.l.length (zero_le _) (fun i e h'=>h'=h/\e 0=an encS 1 x/\e 1 = .func g a b/\e 7 = .int .i64 (x.l.length:Int)/\e 8 = .int .i64 (i:Int)/\(x.l.take i).any p=false) ⟨rfl,rfl,rfl,rfl,rfl,rfl⟩ ?_ ?_
 ·rintro i e h' _ hi ⟨rfl,e0,e1,e7,e8,ht⟩ K' hn iY hr vK;have hv:x.l[i]?=some x.l[i]:=ec hi;rw [F.bM.aT];simp only [e0,e1,e7,e8,aS,reduceAdd,reduceEqDiff,reduceIte,bl hi,aU x hi,jz hv,ju];refine aj (hp _ _ ?_);simp only [aS,reduceAdd,reduceEqDiff,reduceIte]
  cases hq:p x.l[i] with
  |true=>
   simp only [aF];rw [hr,F.bM.bt];refine hK (i:Int) ?_;rw [ey (by omega:(0:Int)<=(i:Int))];exact (List.any_eq_true.2 ⟨_,iA hv,hq⟩).symm
  |false=>
   simp only [aE,aK hi hx,aq];exact hn _ _ ⟨rfl,e0,e1,e7,rfl,by rw [take_add_one,hv,any_append,ht];simp [hq]⟩
 ·rintro e h' ⟨rfl,e0,e1,e7,e8,ht⟩ K' iY;rw [F.bM.aT];simp only [e0,e1,e7,e8,aS,reduceAdd,reduceEqDiff,reduceIte,aX];rw [iY,F.bM.aJ];rw [kB (dK _)] at ht;exact hK (-1) (by rw [ht];rfl)
theorem Co(hx:x.l.length<=cu){a b:List AV}{p:bQ->Bool}(hp:∀ (v:bQ) (K:Out->ag->Bool),K (.ret (.bool (p v))) h=true->Sem TP g (a++([.str v]++b)) h K)
  (hK:K (.ret (.bool (x.l.any p))) h=true):Sem TP 168 [an encS 1 x,.func g a b] h K:=by
 refine F.lC ?_;rw [F.lR];refine aj (Ii hx hp fun n hn=>?_);simp only [aS,reduceAdd,reduceEqDiff,reduceIte];rw [hn];exact hK
theorem KM(hK:K (.ret (.bool (!eU s))) h=true):Sem TP 169 [.str s] h K:=by
 refine F.B4 ?_;rw [F.DQ];refine aj (eS ?_);simp only [aS,reduceAdd,reduceEqDiff,reduceIte];exact hK
theorem Yo(p:α->Bool)(l:List α):(!(l.any fun x=>!p x))=l.all p:=by
 induction l with
 |nil=>rfl
 |cons a l ih=>rw [any_cons,all_cons,<- ih];cases p a<;>simp
theorem Yp(p:α->Bool):∀ (l:List α) (h:l.length=2),l.all p=(p (l[0]'(by omega))&&p (l[1]'(by omega)))
 |[a,b],_=>by simp
def oo(nm:bQ)(xs:List bQ):Bool:=eU nm&&(decide (xs.length<=12)&&xs.all eU)
theorem Gp(hx:xs.l.length<=cu)(hK:K (.ret (.bool (oo nm xs.l))) h=true):Sem TP 130 [.agg [.str nm,an encS 1 xs]] h K:=by
 refine Sem.data (r:=.bool (oo nm xs.l)) ?_ (by simp [AV.cN,AV.pure,bI jk]) hK;clear hK;refine F.FM ?_;rw [F.HN];have g0:(ag.alloc ag.empty (.cells (kr nm xs))).get 0=some (.cells (kr nm xs)):=aD _ _;have hb:eR (.agg [.str nm,an encS 1 xs])=some (kr nm xs):=cG (Cn nm xs);simp only [hb,aq,bA];generalize (ag.alloc ag.empty (.cells (kr nm xs)))=H at g0 ⊢;have fin:∀ b:Bool,b=oo nm xs.l->qm (.bool (oo nm xs.l)) (.ret (.bool b)) H=true:=fun b hb=>by rw [hb];exact c8 rfl
 simp only [aS,reduceAdd,reduceEqDiff,reduceIte,ai g0,kr];refine aj (eS ?_);simp only [aS,reduceAdd,reduceEqDiff,reduceIte]
 cases hn:eU nm with
 |false=>simp only [aE];exact fin _ (by simp [oo,hn])
 |true=>
  simp only [aF,aS,reduceAdd,reduceEqDiff,reduceIte,ai g0,kr];by_cases Cp:xs.l.length<=12
  ·simp only [ey (by omega:(xs.l.length:Int)<=12),aF,aS,reduceAdd,reduceEqDiff,reduceIte,ai g0,kr];refine aj (Co hx (p:=fun s=>!eU s) (fun v K hK=>KM hK) ?_);simp only [aS,reduceAdd,reduceEqDiff,reduceIte];exact fin _ (by rw [Yo];simp [oo,hn,Cp])
  ·simp only [ep (by omega:¬ (xs.l.length:Int)<=12),aE];exact fin _ (by simp [oo,Cp])
def iU(c:dD):Bool:=if c.kind=0 then oo c.name c.args.l else if c.kind=1\/c.kind=2 then decide (c.name = [])&&(decide (c.args.l.length=2)&&c.args.l.all eU) else false
theorem iq{c:dD}(hc:c.ok){h:ag}{K:Out->ag->Bool}(hK:K (.ret (.bool (iU c))) h=true):Sem TP 132 [.agg [.int .i64 c.kind,.bool c.neg,.str c.name,an encS 1 c.args]] h K:=by
 refine Sem.data (r:=.bool (iU c)) ?_ (by simp [AV.cN,AV.pure,bI jk]) hK;clear hK;refine F.yO ?_;rw [F.zP];have g0:(ag.alloc ag.empty (.cells (bR c))).get 0=some (.cells (bR c)):=aD _ _;have hb:eR (.agg [.int .i64 c.kind,.bool c.neg,.str c.name,an encS 1 c.args])=some (bR c):=cG (gQ c);simp only [hb,aq,bA];generalize (ag.alloc ag.empty (.cells (bR c)))=H at g0 ⊢;have fin:∀ b:Bool,b=iU c->qm (.bool (iU c)) (.ret (.bool b)) H=true:=fun b hb=>by rw [hb];exact c8 rfl
 generalize qm (.bool (iU c))=R at fin ⊢;simp only [aS,reduceAdd,reduceEqDiff,reduceIte,ai g0,bR,ct,QG];by_cases k0:c.kind=0
 ·simp only [ey k0,aF];refine aj (Gp hc.2.1 ?_);simp only [aS,reduceAdd,reduceEqDiff,reduceIte];exact fin _ (by simp [iU,k0])
 simp only [ep k0,aE]
 have J:∀ (e:Env) (b:Bool),e 1 = .ptr 0 0->e 10 = .bool b->(b=true↔(c.kind=1\/c.kind=2))->F.iq.J0 R ⟨e,40,[],H⟩=true:=by
  intro e b e1 jH hb;rw [F.iq.FN];simp only [e1,jH,aS,reduceAdd,reduceEqDiff,reduceIte]
  cases b with
  |false=>
   simp only [aE];have:¬ (c.kind=1\/c.kind=2):=fun h=>by have:=hb.2 h;cases this
   exact fin _ (by simp [iU,k0,this])
  |true=>
   have hk:=hb.1 rfl;have Tq:iU c=(decide (c.name = [])&&(decide (c.args.l.length=2)&&c.args.l.all eU)):=by simp only [iU,if_neg k0,if_pos hk]
   rw [Tq] at fin;simp only [aF,aS,reduceAdd,reduceEqDiff,reduceIte,ai g0,bR,sR];by_cases hn:c.name = []
   ·simp only [ey hn,aF,aS,reduceAdd,reduceEqDiff,reduceIte,ai g0,bR,ct];by_cases h2:c.args.l.length=2
    ·simp only [ey (by omega:(c.args.l.length:Int)=2),aF,aS,reduceAdd,reduceEqDiff,reduceIte,ai g0,bR];have v0:c.args.l[0]?=some c.args.l[0]:=ec (by omega);have v1:c.args.l[1]?=some c.args.l[1]:=ec (by omega);have fh:c.args.l.all eU=(eU c.args.l[0]&&eU c.args.l[1]):=Yp eU _ h2;have i0:=aU (enc:=encS) (sz:=1) (k:=.i64) c.args (i:=0) (by omega);have i1:=aU (enc:=encS) (sz:=1) (k:=.i64) c.args (i:=1) (by omega);have l0:=fun h=>jz (x:=c.args) v0 (h:=h);have l1:=fun h=>jz (x:=c.args) v1 (h:=h);simp only [show ((0:Nat):Int)=0 from rfl,show ((1:Nat):Int)=1 from rfl] at i0 i1;simp only [i0,i1,l0,l1,aS,reduceAdd,reduceEqDiff,reduceIte];refine aj (eS ?_);simp only [aS,reduceAdd,reduceEqDiff,reduceIte];rw [fh] at fin
     cases n0:eU c.args.l[0] with
     |false=>simp only [aE];exact fin _ (by simp [n0])
     |true=>
      simp only [aF,aS,reduceAdd,reduceEqDiff,reduceIte,ai g0,bR,i0,i1,l0,l1];refine aj (eS ?_);simp only [aS,reduceAdd,reduceEqDiff,reduceIte];exact fin _ (by simp [n0,hn,h2])
    ·simp only [ep (by omega:¬ (c.args.l.length:Int)=2),aE];exact fin _ (by simp [h2])
   ·simp only [ep hn,aE];exact fin _ (by simp [hn])
 by_cases k1:c.kind=1
 ·simp only [ey k1,aF];exact J _ true rfl rfl (by simp [k1])
 ·simp only [ep k1,aE];exact J _ (decide (c.kind=2)) rfl rfl (by simp [k1])
theorem R4{l:List bQ}(o:Own encS 1 k h a l)(hl:l.length<=cu)
  (hK:∀ n:Int,decide (0<=n)=(l.any fun x=>s==x)->K (.ret (.int .i64 n)) h=true):Sem TP 157 [a,.str s] h K:=by
 refine F.jR ?_;rw [F.j5];simp only [o.len,aS,reduceAdd,reduceEqDiff,reduceIte];refine aG 0 l.length (zero_le _) (fun i e h'=>h'=h/\e 0=a/\e 1 = .str s/\e 7 = .int .i64 (l.length:Int)/\e 8 = .int .i64 (i:Int)/\((l.take i).any fun x=>s==x)=false) ⟨rfl,rfl,rfl,rfl,rfl,rfl⟩ ?_ ?_
 ·rintro i e h' _ hi ⟨rfl,e0,e1,e7,e8,ht⟩ K' hn iY hr vK;have hv:l[i]?=some l[i]:=ec hi;generalize l[i]=x at hv;obtain ⟨b,_,g1,g2⟩:=Ba o hv;rw [F.bN.aT];simp only [e0,e1,e7,e8,aS,reduceAdd,reduceEqDiff,reduceIte,bl hi,g1,g2]
  cases hq:s==x with
  |true=>
   simp only [aF];rw [hr,F.bN.bt];refine hK (i:Int) ?_;rw [ey (by omega:(0:Int)<=(i:Int))];exact (List.any_eq_true.2 ⟨_,iA hv,hq⟩).symm
  |false=>
   simp only [aE,aK hi hl,aq];exact hn _ _ ⟨rfl,e0,e1,e7,rfl,xg hv ht hq⟩
 ·rintro e h' ⟨rfl,e0,e1,e7,e8,ht⟩ K' iY;rw [F.bN.aT];simp only [e0,e1,e7,e8,aS,reduceAdd,reduceEqDiff,reduceIte,aX];rw [iY,F.bN.aJ];rw [kB (dK _)] at ht;exact hK (-1) (by rw [ht];rfl)
theorem KN{l:List bQ}(o:Own encS 1 k h a l)(hl:l.length<=cu)
  (hK:K (.ret (.bool (l.any fun x=>s==x))) h=true):Sem TP 155 [a,.str s] h K:=by
 refine F.mT ?_;rw [F.nr];refine aj (R4 o hl fun n hn=>?_);simp only [aS,reduceAdd,reduceEqDiff,reduceIte];rw [hn];exact hK
def Cq(o:List bQ)(s:bQ):List bQ:=if (o.any fun x=>s==x)=true then o else o++[s]
def fL(o l:List bQ):List bQ:=l.foldl Cq o
theorem Di{l:List bQ}{i:Nat}(hs:l[i]?=some s):fL o (l.take (i+1))=Cq (fL o (l.take i)) s:=by
 unfold fL;rw [take_add_one,hs];simp
theorem UC(o:List bQ)(s:bQ):(Cq o s).length<=o.length+1:=by
 unfold Cq;split<;>simp
theorem rQ:∀ (l o:List bQ),(fL o l).length<=o.length+l.length
 |[],o=>dK _
 |s :: l,o=>by
  have h1:=rQ l (Cq o s);have h2:=UC o s;show (fL (Cq o s) l).length<=_;rw [length_cons];omega
theorem xj{enc:α->List AV}{l:List α}(o:Own enc sz k h a l):a.eN = [a]/\bE [a]=true:=by
 cases o<;>exact ⟨rfl,rfl⟩
theorem R5{enc:α->List AV}{b:AV}{l:List α}(o:Own enc sz k h a l)(hV:h.get V=some (.cells [b])):bh 1 (.ptr V 0) a h=some (h.set V (.cells [a])):=by
 obtain ⟨h1,h2⟩:=xj o;rw [cJ (n:=1) hV (by rw [h1];rfl) (by rw [h1];exact h2) (by simp),h1];rfl
theorem ZK(s:bQ):ig [.str []] [(0,1)] [.str s]=some (encS s):=rfl
theorem Dj{l:List bQ}(hV:h.get V=some (.cells [a]))(hVk:V<k)(o:Own encS 1 k h a l)(hk:k<=h.next)(hlen:l.length+xs.l.length<=100000000)
  (hK:∀ a' h',h'.get V=some (.cells [a'])->Own encS 1 k h' a' (fL l xs.l)->(∀ c,c<k->c≠V->h'.get c=h.get c)->h.next<=h'.next->K (.ret (.tuple [])) h'=true):Sem TP 154 [an encS 1 xs,.ptr V 0] h K:=by
 refine F.vN ?_;rw [F.wQ];simp only [aS,reduceAdd,reduceEqDiff,reduceIte]
 refine aG 0 xs.l.length (zero_le _) (fun i e h'=>∃ a',h'.get V=some (.cells [a'])/\Own encS 1 k h' a' (fL l (xs.l.take i))/\(∀ c,c<k->c≠V->h'.get c=h.get c)/\h.next<=h'.next /\
  e 1 = .ptr V 0/\e 5=an encS 1 xs/\e 6 = .int .i64 (xs.l.length:Int)/\e 7 = .int .i64 (i:Int)) ⟨a,hV,by simpa [fL] using o,fun _ _ _=>rfl,dK _,rfl,rfl,rfl,rfl⟩ ?_ ?_
 ·rintro i e h' _ hi ⟨a',gV,o',fr,wj,e1,e5,e6,e7⟩ K' hn hx hr hp;have hv:xs.l[i]?=some xs.l[i]:=ec hi;generalize xs.l[i]=s at hv
  have hlb:(fL l (xs.l.take i)).length<=100000000:=by
   have h1:=rQ (xs.l.take i) l;have h2:=length_take_le i xs.l;omega
  rw [F.eH.aT];simp only [e1,e5,e6,e7,aS,reduceAdd,reduceEqDiff,reduceIte,bl hi,aU xs hi,jz hv,ai gV];refine aj (KN o' (by unfold cu;omega) ?_);simp only [aS,reduceAdd,reduceEqDiff,reduceIte];have ej:=Di (o:=l) hv;unfold Cq at ej
  cases hq:(fL l (xs.l.take i)).any fun x=>s==x with
  |true=>
   rw [hq,if_pos rfl] at ej;simp only [Bool.not_true,aE,aK hi (show xs.l.length<=cu by unfold cu;omega),aq];exact hn _ _ ⟨a',gV,by rw [ej];exact o',fr,wj,e1,e5,e6,rfl⟩
  |false=>
   rw [hq,if_neg (by simp)] at ej;obtain ⟨a2,h2,p1,p2,p3,p4,p5,p6⟩:=o'.push jP rO (by omega) (bytes:=16) (by unfold dw;omega) s
   have gV2:h2.get V=some (.cells [a']):=by
    rw [p3 V (by omega) (fun hb=>by have:=o'.ge hb;omega)];exact gV
   have ic:=R5 p2 gV2;simp only [Bool.not_false,aF,e1,ai gV,aS,reduceAdd,reduceEqDiff,reduceIte,ZK,p1,ic,aK hi (show xs.l.length<=cu by unfold cu;omega)];refine hn _ _ ⟨a2,by rw [ag.aP,if_pos rfl],by rw [ej];exact p2.uW hVk _,fun c hc hcV=>?_,by rw [ag.bq];omega,e1,e5,e6,rfl⟩;rw [ag.aP,if_neg hcV,p3 c (by omega) (fun hb=>by have:=o'.ge hb;omega),fr c hc hcV]
 ·rintro e h' ⟨a',gV,o',fr,wj,e1,e5,e6,e7⟩ K' hx;rw [F.eH.aT];simp only [e6,e7,aS,reduceAdd,reduceEqDiff,reduceIte,aX];rw [hx,F.eH.aJ];rw [kB (dK _)] at o';exact hK a' h' gV o' fr wj
def lU(o:List bQ)(cs:List dD):List bQ:=cs.foldl (fun o c=>fL o c.args.l) o
def varsOf(r:aR):List bQ:=lU (fL [] r.args.l) r.body.l
def aR.kH(r:aR):Prop:=r.args.l.length<=1500/\r.body.l.length<=1500/\∀ c ∈ r.body.l,c.args.l.length<=1500
theorem Ij{cs:List dD}{i:Nat}{c:dD}(hc:cs[i]?=some c):lU o (cs.take (i+1))=fL (lU o (cs.take i)) c.args.l:=by
 unfold lU;rw [take_add_one,hc];simp
theorem Bd:∀ (cs:List dD) (o:List bQ),(∀ c ∈ cs,c.args.l.length<=1500)->(lU o cs).length<=o.length+cs.length*1500
 |[],o,_=>by simp [lU]
 |c :: cs,o,h=>by
  have h1:=Bd cs (fL o c.args.l) fun d hd=>h d (mem_cons_of_mem _ hd);have h2:=rQ c.args.l o;have h3:=h c mem_cons_self;show (lU (fL o c.args.l) cs).length<=_;rw [length_cons];omega
theorem MI{r:aR}(hf:r.kH)(i:Nat):(lU (fL [] r.args.l) (r.body.l.take i)).length<=3000000:=by
 have h1:=Bd (r.body.l.take i) (fL [] r.args.l) fun c hc=>hf.2.2 c (mem_of_mem_take hc);have h2:=rQ r.args.l [];have h3:=length_take_le i r.body.l;have h4:=length_take_le' i r.body.l;have:=hf.1;have:=hf.2.1;simp only [length_nil] at h2;omega
theorem dO{r:aR}(hf:r.kH){h:ag}{K:Out->ag->Bool}(hK:∀ x:Sl bQ,x.l=varsOf r->K (.ret (an encS 1 x)) h=true) :
  Sem TP 108 [.agg [.str r.name,an encS 1 r.args,an bR 4 r.body]] h K:=by
 have main:Sem TP 108 [.agg [.str r.name,an encS 1 r.args,an bR 4 r.body]] ag.empty (fun o h'=>yes (∃ v,∃ x:Sl bQ,o = .ret v/\x.l=varsOf r/\Fz true h' v (an encS 1 x))):=by
  refine F.yN ?_;rw [F.zO];have hb:eR (.agg [.str r.name,an encS 1 r.args,an bR 4 r.body])=some (aO r):=cG (jJ r);simp only [hb,aq,bA,ag.aV];have g0:(ag.alloc (ag.alloc ag.empty (.cells (aO r))) (.cells [.au])).get 0=some (.cells (aO r)):=by simp [ag.aW,bA]
  have g1:(ag.alloc (ag.alloc ag.empty (.cells (aO r))) (.cells [.au])).get 1=some (.cells [.au]):=by simp [ag.aW,bA]
  have gn:(ag.alloc (ag.alloc ag.empty (.cells (aO r))) (.cells [.au])).next=2:=rfl
  generalize (ag.alloc (ag.alloc ag.empty (.cells (aO r))) (.cells [.au]))=H at g0 g1 gn ⊢;simp only [aS,reduceAdd,reduceEqDiff,reduceIte,ai g0,aO];refine aj (Dj g1 (by omega) (Own.nil (k:=2)) (by omega) (by have:=hf.1;simp only [length_nil];omega) fun a h1 q1 q2 q3 q4=>?_);have Tw:h1.get 0=some (.cells (aO r)):=by rw [q3 0 (by omega) (by omega)];exact g0
  simp only [aS,reduceAdd,reduceEqDiff,reduceIte,ai Tw,aO]
  refine aG 0 r.body.l.length (zero_le _) (fun i e h'=>∃ a',h'.get 1=some (.cells [a'])/\Own encS 1 2 h' a' (lU (fL [] r.args.l) (r.body.l.take i))/\2<=h'.next /\
   e 3 = .ptr 1 0/\e 4 = .func 154 [] [.ptr 1 0]/\e 14=an bR 4 r.body/\e 15 = .int .i64 (r.body.l.length:Int)/\e 16 = .int .i64 (i:Int)) ⟨a,q1,by simpa [lU] using q2,by omega,rfl,rfl,rfl,rfl,rfl⟩ ?_ ?_
  ·rintro i e h' _ hi ⟨a',gV,o',wj,e3,e4,m8,lE,rR⟩ K' hn hx hr hp;have hv:r.body.l[i]?=some r.body.l[i]:=ec hi;generalize r.body.l[i]=c at hv;have ajB:=hf.2.2 c (iA hv);obtain ⟨H2,hs,k1,ko,kn⟩:=cR (h:=h') (zs:=[.int .i64 0,.bool false,.str [],.au]) (cs:=bR c) (n:=4) rfl rfl (gQ c);have x2:bG h' H2:=⟨by omega,fun b hb=>ko b (by omega)⟩
   have gV2:H2.get 1=some (.cells [a']):=by rw [x2.get 1 (by omega)];exact gV
   rw [F.dO.aT];simp only [e3,e4,m8,lE,rR,aS,reduceAdd,reduceEqDiff,reduceIte,bl hi,aU r.body hi,cX gh hv,hs];simp only [aS,reduceAdd,reduceEqDiff,reduceIte,ai k1,bR,ju,nil_append,cons_append];refine aj (Dj (xs:=c.args) gV2 (by omega) (o'.ext x2) (by omega) (by have:=MI hf i;omega) fun a3 h3 s1 s2 s3 s4=>?_);simp only [aS,reduceAdd,reduceEqDiff,reduceIte,aK hi (show r.body.l.length<=cu by have:=hf.2.1;unfold cu;omega)];refine hn _ _ ⟨a3,s1,by rw [Ij hv];exact s2,by omega,e3,e4,m8,lE,rfl⟩
  ·rintro e h' ⟨a',gV,o',wj,e3,e4,m8,lE,rR⟩ K' hx;rw [F.dO.aT];simp only [lE,rR,aS,reduceAdd,reduceEqDiff,reduceIte,aX];rw [hx,F.dO.aJ];simp only [e3,aS,reduceAdd,reduceEqDiff,reduceIte,ai gV];rw [kB (dK _)] at o'
   obtain ⟨x,jG,iu⟩:=o'.MF (fun v y hy=>by
    simp only [encS,mem_cons,not_mem_nil,_root_.or_false] at hy
    subst hy;exact .scalar _ rfl)
   exact cO.2 ⟨a',x,rfl,jG,iu⟩
 refine main.frozen (by have:=dW r;simpa [aO,AV.cN,AV.pure] using this) fun o h' ho=>?_;obtain ⟨v,x,rfl,hx,Tu⟩:=cO.1 ho;exact ⟨v,_,rfl,Tu,hK x hx⟩
theorem bD(b o:Nat):bS (.ptr b o)=some (.ptr b o):=rfl
theorem MJ{d:TypeDesc}{k:AV}:∀ {es:List Entry} {i j:Nat} {v:AV},jB d k es i=some (some (j,v))->∃ n e,j=i+n/\es[n]?=some e
 |[],i,j,v,h=>by simp [jB] at h
 |e :: es,i,j,v,h=>by
  simp only [jB] at h;split at h
  ·cases h;exact ⟨0,e,rfl,rfl⟩
  ·obtain ⟨n,f,h1,h2⟩:=MJ h;exact ⟨n+1,f,by omega,by simpa using h2⟩
  ·cases h
theorem sU:∀ {es:List Entry} {i j:Nat} {e:Entry},(es.map (·.2.2)).Nodup->es[i]?=some e->rB (e.2.2:Int) es j=some (j+i)
 |[],i,j,e,_,h=>by simp at h
 |f :: es,0,j,e,_,h=>by
  simp only [getElem?_cons_zero,Option.some.injEq] at h;subst h;simp [rB]
 |f :: es,i+1,j,e,hn,h=>by
  rw [map_cons,nodup_cons] at hn;rw [getElem?_cons_succ] at h
  have lF:¬ ((f.2.2:Int)=(e.2.2:Int)):=fun heq=>hn.1 (by
   have:f.2.2=e.2.2:=by omega
   rw [this];exact List.mem_map_of_mem (iA h))
  rw [rB,if_neg lF,sU hn.2 h];congr 1;omega
theorem R6{es:List Entry}{ck:Nat}{m:fy}(hb:h.get b=some (.map es ck))(hm:mF es m)(hB:kq es ck){k:bQ}{q:Int}(hk:m.find k=some q)(v:Int) :
  ∃ wD born,iR .string (.int .i64 0) (.map b) (.str k) h=some (.tuple [.int .i64 q,.int .i64 born],h)/\fX (.map b) (.int .i64 born) (.int .i64 v) h=some (h.set b (.map wD ck))/\mF wD (m.tP k v)/\kq wD ck:=by
 obtain ⟨r,hr,oE⟩:=mF.jB (k:=k) 0 hm
 cases r with
 |none=>simp only at oE;rw [hk] at oE;cases oE
 |some jv=>
  obtain ⟨n,q',hj,b',c,_,e⟩:=oE;obtain ⟨j,w⟩:=jv;simp only [Nat.zero_add] at hj c;subst hj;subst c;rw [hk] at b';cases b';obtain ⟨n,f,h1,h2⟩:=MJ hr;rw [Nat.zero_add] at h1;subst h1;refine ⟨fG es j (.int .i64 v),(f.2.2:Int),?_,?_,e v,hB.set _ _⟩
  ·simp only [iR,hb,pK,pJ,if_true,hr,zu,h2]
  ·have:=sU (j:=0) hB.nodup h2;rw [Nat.zero_add] at this;simp only [fX,hb,this]
structure fZ (hs:List bQ) (h:ag) (M:Nat) (ks:List bQ) (lv:eL.Lv):Prop where
 ex:∃ es ck m,h.get M=some (.map es ck)/\mF es m/\kq es ck/\m.map (·.1)=ks/\∀ x,m.find x=if x ∈ hs then some (lv x:Int) else none
theorem fZ.eW(l:fZ hs h M ks lv)(he:h'.get M=h.get M):fZ hs h' M ks lv:=by
 obtain ⟨es,ck,m,h1,h2⟩:=l.ex;exact ⟨es,ck,m,by rw [he];exact h1,h2⟩
def gr(r:aR)(c:dD):eL.Edge:=⟨c.name,if c.neg then 1 else 0,r.name⟩
def oq(hs:List bQ)(r:aR)(c:dD):List eL.Edge:=if c.kind=0/\c.name ∈ hs then [gr r c] else []
def qt(hs:List bQ)(r:aR)(cs:List dD):List eL.Edge:=cs.flatMap (oq hs r)
def mA(hs:List bQ)(rs:List aR):List eL.Edge:=rs.flatMap fun r=>qt hs r r.body.l
theorem Dk{r:aR}{cs:List dD}{c:dD}(hc:cs[j]?=some c):qt hs r (cs.take (j+1))=qt hs r (cs.take j)++oq hs r c:=by
 unfold qt;rw [take_add_one,hc];simp
theorem Gq{rs:List aR}{i:Nat}{r:aR}(hr:rs[i]?=some r):mA hs (rs.take (i+1))=mA hs (rs.take i)++qt hs r r.body.l:=by
 unfold mA;rw [take_add_one,hr];simp
theorem fZ.look(l:fZ hs h M ks lv)(k:bQ) :
  dc .string (.int .i64 0) true (.map M) (.str k) h=some (.tuple [.int .i64 (if k ∈ hs then (lv k:Int) else 0),.bool (decide (k ∈ hs))]):=by
 obtain ⟨es,ck,m,h1,h2,h3,h4,h5⟩:=l.ex;rw [uK h1 h2,h5];by_cases hk:k ∈ hs<;>simp [hk]
theorem fZ.ZL(l:fZ hs h M ks lv)(k:bQ) :
  dc .string (.int .i64 0) false (.map M) (.str k) h=some (.int .i64 (if k ∈ hs then (lv k:Int) else 0)):=by
 obtain ⟨es,ck,m,h1,h2,h3,h4,h5⟩:=l.ex;rw [xh h1 h2,h5];by_cases hk:k ∈ hs<;>simp [hk]
theorem fZ.ajC{e:eL.Edge}(l:fZ hs h M ks lv)(hh:e.h ∈ hs)(eM:lv e.h<lv e.b+e.w) :
  ∃ born h',iR .string (.int .i64 0) (.map M) (.str e.h) h=some (.tuple [.int .i64 (lv e.h:Int),.int .i64 born],h)/\fX (.map M) (.int .i64 born) (.int .i64 ((lv e.b+e.w:Nat):Int)) h=some h' /\
   fZ hs h' M ks (eL.jf lv e)/\(∀ b,b≠M->h'.get b=h.get b)/\h'.next=h.next:=by
 obtain ⟨es,ck,m,h1,h2,h3,h4,h5⟩:=l.ex;have hf:m.find e.h=some (lv e.h:Int):=by rw [h5,if_pos hh]
 obtain ⟨wD,born,q1,q2,q3,q4⟩:=R6 h1 h2 h3 hf ((lv e.b+e.w:Nat):Int);refine ⟨born,_,q1,q2,⟨wD,ck,_,by rw [ag.aP,if_pos rfl],q3,q4,?_,fun x=>?_⟩,fun b hb=>by rw [ag.aP,if_neg hb],ag.bq _ _ _⟩
 ·rw [MG,if_pos (mem_map.2 ⟨_,tY hf,rfl⟩)];exact h4
 ·rw [yq];unfold eL.jf;rw [if_pos eM];by_cases hx:x=e.h
  ·subst hx;rw [if_pos rfl,if_pos hh,if_pos rfl]
  ·rw [if_neg hx,if_neg hx,h5]
theorem OW{P:Nat}{A:AV}{rules:Sl aR}{N:Nat}(hP:h.get P=some (.cells [an aO 3 rules,A,.map M]))(hl:fZ hs h M ks lv)(QI:P<h.next)(UD:M<h.next)
  (hr:rules.l.length<=60) (hb:∀ r ∈ rules.l,r.body.l.length<=20/\r.name ∈ hs) (hN:∀ x,lv x<=N) (hNb:N<=1000000)
  (hK:∀ h',fZ hs h' M ks (eL.round (mA hs rules.l) lv)->(∀ b,b<h.next->b≠M->h'.get b=h.get b)->h.next<=h'.next->K (.ret (.bool (!decide (eL.dR (mA hs rules.l) lv)))) h'=true):Sem TP 133 [.ptr P 0] h K:=by
 have hPM:P≠M:=fun e=>by
  obtain ⟨es,ck,m,h1,_⟩:=hl.ex;rw [e,h1] at hP;cases hP
 refine F.uN ?_;rw [F.vQ];simp only [aS,reduceAdd,reduceEqDiff,reduceIte,bD,ai hP]
 refine aG 0 rules.l.length (zero_le _) (fun i e h'=>∃ cur ch,eL.RS lv cur (mA hs (rules.l.take i)) ch/\fZ hs h' M ks cur/\(∀ x,cur x<=N+i*20)/\(∀ b,b<h.next->b≠M->h'.get b=h.get b)/\h.next<=h'.next /\
  e 0 = .ptr P 0/\e 3 = .bool ch/\e 13=an aO 3 rules/\e 14 = .int .i64 (rules.l.length:Int)/\e 15 = .int .i64 (i:Int)) ⟨lv,false,eL.RS.nil lv,hl,by simpa using hN,fun _ _ _=>rfl,dK _,rfl,rfl,rfl,rfl,rfl⟩ ?_ ?_
 ·rintro i e h' _ hi ⟨cur,ch,rs,la,bd,fr,wj,e0,e3,uY,m8,lE⟩ K' hn hx yY hp;have hv:rules.l[i]?=some rules.l[i]:=ec hi;generalize rules.l[i]=r at hv;obtain ⟨afO,mN⟩:=hb r (iA hv);obtain ⟨H,EM,g1,go,gn⟩:=cR (h:=h') (zs:=[.str [],.au,.au]) (cs:=aO r) (n:=3) rfl rfl (jJ r);rw [F.bF.aT];simp only [e0,e3,uY,m8,lE,aS,reduceAdd,reduceEqDiff,reduceIte,bl hi,aU rules hi,cX ei hv,EM];simp only [aS,reduceAdd,reduceEqDiff,reduceIte,ai g1,aO]
  refine aG 0 r.body.l.length (zero_le _) (fun j e h2=>∃ cur ch,eL.RS lv cur (mA hs (rules.l.take i)++qt hs r (r.body.l.take j)) ch/\fZ hs h2 M ks cur/\(∀ x,cur x<=N+i*20+j)/\(∀ b,b<h.next->b≠M->h2.get b=h.get b)/\h2.get h'.next=some (.cells (aO r))/\h'.next<h2.next /\
   e 0 = .ptr P 0/\e 3 = .bool ch/\e 5 = .ptr h'.next 0/\e 13=an aO 3 rules/\e 14 = .int .i64 (rules.l.length:Int)/\e 15 = .int .i64 (i:Int)/\e 20=an bR 4 r.body/\e 21 = .int .i64 (r.body.l.length:Int)/\e 22 = .int .i64 (j:Int))
   ⟨cur,ch,by simpa [qt] using rs,la.eW (go M (by omega)),by simpa using bd,fun b To IK=>by rw [go b (by omega)];exact fr b To IK,g1,by omega,e0,e3,rfl,uY,m8,lE,rfl,rfl,rfl⟩ ?_ ?_
  ·rintro j e h2 _ hj ⟨cur,ch,rs,la,bd,fr,gR,qM,e0,e3,e5,uY,m8,lE,Be,Ik,KJ⟩ K2 UE iu vL Il;have hc:r.body.l[j]?=some r.body.l[j]:=ec hj;generalize r.body.l[j]=c at hc;obtain ⟨H2,qX,k1,ko,kn⟩:=cR (h:=h2) (zs:=[.int .i64 0,.bool false,.str [],.au]) (cs:=bR c) (n:=4) rfl rfl (gQ c);have R7:fZ hs H2 M ks cur:=la.eW (ko M (by omega));have gP2:H2.get P=some (.cells [an aO 3 rules,A,.map M]):=by rw [ko P (by omega),fr P QI hPM];exact hP
   have gR2:H2.get h'.next=some (.cells (aO r)):=by rw [ko _ (by omega)];exact gR
   have fr2:∀ b,b<h.next->b≠M->H2.get b=h.get b:=fun b To IK=>by rw [ko b (by omega)];exact fr b To IK
   have j8:r.body.l.length<=cu:=by unfold cu;omega
   have ic:=Dk (hs:=hs) (r:=r) hc;rw [F.bF.eC];simp only [e0,e3,e5,uY,m8,lE,Be,Ik,KJ,aS,reduceAdd,reduceEqDiff,reduceIte,bl hj,aU r.body hj,cX gh hc,qX];simp only [aS,reduceAdd,reduceEqDiff,reduceIte,ai k1,bD,ai gP2,bR,R7.look,ct];by_cases k0:c.kind=0
   ·simp only [ey k0,Bool.not_true,aE];by_cases hm:c.name ∈ hs
    ·have Tx:oq hs r c = [gr r c]:=(by unfold oq;rw [if_pos ⟨k0,hm⟩]);rw [Tx] at ic;simp only [ey hm,Bool.not_true,aE,if_pos hm,aS,reduceAdd,reduceEqDiff,reduceIte,ai k1,bR]
     have J:∀ e':Env,e' 0 = .ptr P 0->e' 3 = .bool ch->e' 5 = .ptr h'.next 0->e' 8 = .int .i64 ((cur c.name+(gr r c).w:Nat):Int)->e' 13=an aO 3 rules->e' 14 = .int .i64 (rules.l.length:Int)->e' 15 = .int .i64 (i:Int)->e' 20=an bR 4 r.body->e' 21 = .int .i64 (r.body.l.length:Int)->e' 22 = .int .i64 (j:Int) ->
       F.bF.J0 K2 ⟨e',71,[],H2⟩=true:=by
      intro e' e0 e3 e5 e8 uY m8 lE Be Ik KJ;rw [F.bF.FN];simp only [e0,e5,e8,aS,reduceAdd,reduceEqDiff,reduceIte,bD,ai gP2,ai gR2,aO,R7.ZL,if_pos mN];by_cases eM:cur r.name<cur c.name+(gr r c).w
      ·obtain ⟨born,h3,q1,q2,q3,q4,q5⟩:=R7.ajC (e:=gr r c) mN eM;have q1':iR .string (.int .i64 0) (.map M) (.str r.name) H2=some (.tuple [.int .i64 (cur r.name:Int),.int .i64 born],H2):=q1;have q2':fX (.map M) (.int .i64 born) (.int .i64 ((cur c.name+(gr r c).w:Nat):Int)) H2=some h3:=q2;simp only [bl eM,aF,e0,e5,e8,KJ,aS,reduceAdd,reduceEqDiff,reduceIte,bD,ai gP2,ai gR2,aO,q1',q2',aK hj j8];refine UE _ _ ⟨_,true,?_,q3,fun x=>?_,fun b To IK=>by rw [q4 b IK];exact fr2 b To IK,?_,by omega,e0,rfl,e5,uY,m8,lE,Be,Ik,rfl⟩
       ·rw [ic,<- append_assoc];exact rs.up eM
       ·have:=eL.wq (e:=gr r c) bd (by unfold gr;simp only;split<;>omega) x;omega
       ·rw [q4 _ (by omega)];exact gR2
      ·simp only [ep (by omega:¬ ((cur r.name:Int)<((cur c.name+(gr r c).w:Nat):Int))),aE,KJ,aK hj j8,aq];exact UE _ _ ⟨cur,ch,by rw [ic,<- append_assoc];exact rs.same eM,R7,fun x=>by have:=bd x;omega,fr2,gR2,by omega,e0,e3,e5,uY,m8,lE,Be,Ik,rfl⟩
     cases Yq:c.neg with
     |true=>
      have hw:(gr r c).w=1:=(by unfold gr;simp [Yq]);have xk:=aK (i:=cur c.name) (n:=2000000) (by have:=bd c.name;omega) (by unfold cu;omega);simp only [aF,xk,aq];exact J _ e0 e3 e5 (by rw [hw];rfl) uY m8 lE Be Ik KJ
     |false=>
      have hw:(gr r c).w=0:=(by unfold gr;simp [Yq]);simp only [aE];exact J _ e0 e3 e5 (by rw [hw];rfl) uY m8 lE Be Ik KJ
    ·have Tx:oq hs r c = []:=(by unfold oq;rw [if_neg (fun h=>hm h.2)]);rw [Tx,append_nil] at ic;simp only [ep hm,Bool.not_false,aF,aK hj j8,aq];exact UE _ _ ⟨cur,ch,by rw [ic];exact rs,R7,fun x=>by have:=bd x;omega,fr2,gR2,by omega,e0,e3,e5,uY,m8,lE,Be,Ik,rfl⟩
   ·have Tx:oq hs r c = []:=(by unfold oq;rw [if_neg (fun h=>k0 h.1)]);rw [Tx,append_nil] at ic;simp only [ep k0,Bool.not_false,aF,aK hj j8,aq];exact UE _ _ ⟨cur,ch,by rw [ic];exact rs,R7,fun x=>by have:=bd x;omega,fr2,gR2,by omega,e0,e3,e5,uY,m8,lE,Be,Ik,rfl⟩
  ·rintro e h2 ⟨cur,ch,rs,la,bd,fr,gR,qM,e0,e3,e5,uY,m8,lE,Be,Ik,KJ⟩ K2 iu;rw [F.bF.eC];simp only [Ik,KJ,aS,reduceAdd,reduceEqDiff,reduceIte,aX];rw [iu,F.bF.cZ];simp only [lE,aS,reduceAdd,reduceEqDiff,reduceIte,aK hi (show rules.l.length<=cu by unfold cu;omega),aq];rw [kB (dK _),<- Gq hv] at rs;exact hn _ _ ⟨cur,ch,rs,la,fun x=>by have:=bd x;omega,fr,by omega,e0,e3,uY,m8,rfl⟩
 ·rintro e h' ⟨cur,ch,rs,la,bd,fr,wj,e0,e3,uY,m8,lE⟩ K' hx;rw [F.bF.aT];simp only [m8,lE,aS,reduceAdd,reduceEqDiff,reduceIte,aX];rw [hx,F.bF.aJ];rw [kB (dK _)] at rs;obtain ⟨d1,d2⟩:=rs.done;simp only [bg,reduceEqDiff,reduceIte,e3];rw [d2];rw [d1] at la;exact hK h' la fr wj
theorem afP(x:Sl aR)(A M:Nat):jM [.au,.kX,.kX] [(0,1),(1,1),(2,1)] [an aO 3 x,.map A,.map M]=some (.agg [an aO 3 x,.map A,.map M]):=by cases x<;>rfl
theorem afQ(x:Sl aR)(A M:Nat):eR (.agg [an aO 3 x,.map A,.map M])=some [an aO 3 x,.map A,.map M]:=cG (by simp only [bE,mj];rfl)
def Gr(m:fy)(nm:bQ)(n:Nat):Option fy:=match m.find nm with
 |none=>some (m.tP nm n)
 |some k=>if k=(n:Int) then some (m.tP nm n) else none
def qN:List dD->fy->Option fy
 |[],m=>some m
 |c :: cs,m=>bif iU c then (if c.kind=0 then (match Gr m c.name c.args.l.length with|none=>none|some m'=>qN cs m') else qN cs m) else none
def dM:List aR->fy->Option fy
 |[],m=>some m
 |r :: rs,m=>bif oo r.name r.args.l then (match Gr m r.name r.args.l.length with
   |none=>none
   |some m1=>if 20<r.body.l.length then none else if 12<(varsOf r).length then none else match qN r.body.l m1 with
    |none=>none
    |some m2=>dM rs m2) else none
theorem Jc{l:List α}{i:Nat}{a:α}(h:l[i]?=some a):l.drop i=a :: l.drop (i+1):=by
 have hi:i<l.length:=(oB.1 h).1;rw [drop_eq_getElem_cons hi];rw [ec hi] at h;cases h;rfl
theorem fZ.add(l:fZ hs h M ks (fun _=>0))(hn:ks.Nodup)(nm:bQ) :
  ∃ h' ks',fT .string (.map M) (.str nm) (.int .i64 0) h=some h'/\fZ (hs++[nm]) h' M ks' (fun _=>0)/\ks'.Nodup/\(∀ b,b≠M->h'.get b=h.get b)/\h'.next=h.next:=by
 obtain ⟨es,ck,m,h1,h2,h3,h4,h5⟩:=l.ex;obtain ⟨wD,EK,q1,q2⟩:=Fw h1 h2 nm 0;have g:(h.set M (.map wD EK)).get M=some (.map wD EK):=by rw [ag.aP,if_pos rfl]
 refine ⟨_,(m.tP nm 0).map (·.1),q1,⟨wD,EK,_,g,q2,ze h1 h3 q1 g,rfl,fun x=>?_⟩,Ja (by rw [h4];exact hn) nm 0,fun b hb=>by rw [ag.aP,if_neg hb],ag.bq _ _ _⟩;rw [yq,h5];by_cases hx:x=nm
 ·subst hx;simp
 ·simp [hx]
theorem fZ.mem(l:fZ hs h M ks lv)(x:bQ):x ∈ ks↔x ∈ hs:=by
 obtain ⟨es,ck,m,h1,h2,h3,h4,h5⟩:=l.ex;rw [<- h4];constructor
 ·intro hx;obtain ⟨p,hp,rfl⟩:=mem_map.1 hx;have h6:=h5 p.1;by_cases hh:p.1 ∈ hs
  ·exact hh
  ·rw [if_neg hh] at h6;unfold fy.find at h6;rw [map_eq_none_iff,find?_eq_none] at h6;exact absurd (h6 p hp) (by simp)
 ·intro hx;have h6:=h5 x;rw [if_pos hx] at h6;exact mem_map.2 ⟨_,tY h6,rfl⟩
theorem fZ.len(l:fZ hs h M ks lv):b6 .map (.map M) h=some (.int .i64 (ks.length:Int)):=by
 obtain ⟨es,ck,m,h1,h2,h3,h4,h5⟩:=l.ex
 have:∀ (es:List Entry) (m:fy),mF es m->es.length=m.length:=by
  intro es
  induction es with
  |nil=>intro m hm;cases m with
   |nil=>rfl
   |cons p m=>exact hm.elim
  |cons e es ih=>intro m hm;cases m with
   |nil=>exact hm.elim
   |cons p m=>rw [length_cons,length_cons,ih m hm.2.2]
 have hl:=this es m h2;rw [<- h4,length_map,<- hl];simp [b6,lH,h1]
theorem Gs:∀ {E:List eL.Edge} {L:eL.Lv} {N:Nat},(∀ e ∈ E,e.w<=1)->(∀ x,L x<=N)->∀ x,E.foldl eL.jf L x<=N+E.length
 |[],L,N,_,h,x=>h x
 |e :: E,L,N,hw,h,x=>by
  have:=Gs (E:=E) (L:=eL.jf L e) (N:=N+1) (fun f hf=>hw f (mem_cons_of_mem _ hf)) (eL.wq h (hw e mem_cons_self)) x;rw [length_cons];show E.foldl eL.jf (eL.jf L e) x<=_;omega
theorem Gt(hs:List bQ)(r:aR):∀ cs:List dD,(qt hs r cs).length<=cs.length
 |[]=>dK _
 |c :: cs=>by
  have:=Gt hs r cs;have h1:(oq hs r c).length<=1:=by unfold oq;split<;>simp
  show (oq hs r c++qt hs r cs).length<=_;rw [length_append,length_cons];omega
theorem Jd(hs:List bQ):∀ rs:List aR,(∀ r ∈ rs,r.body.l.length<=20)->(mA hs rs).length<=rs.length*20
 |[],_=>dK _
 |r :: rs,h=>by
  have h1:=Jd hs rs fun q hq=>h q (mem_cons_of_mem _ hq);have h2:=Gt hs r r.body.l;have h3:=h r mem_cons_self;show (qt hs r r.body.l++mA hs rs).length<=_;rw [length_append,length_cons];omega
theorem rS{rs:List aR}{e:eL.Edge}(he:e ∈ mA hs rs):∃ r ∈ rs,∃ c ∈ r.body.l,c.kind=0/\c.name ∈ hs/\e=gr r c:=by
 obtain ⟨r,hr,he⟩:=mem_flatMap.1 he;obtain ⟨c,hc,he⟩:=mem_flatMap.1 he;unfold oq at he;split at he
 ·rename_i h;rw [mem_singleton] at he;exact ⟨r,hr,c,hc,h.1,h.2,he⟩
 ·cases he
theorem KO(r:aR)(c:dD):(gr r c).w<=1:=by unfold gr;simp only;split<;>omega
theorem gZ:∀ {rs:List aR} {m m':fy},dM rs m=some m'->∀ r ∈ rs,oo r.name r.args.l=true/\r.body.l.length<=20/\(varsOf r).length<=12
 |[],_,_,_,r,hr=>by cases hr
 |r0 :: rs,m,m',h,r,hr=>by
  rw [dM] at h
  cases ha:oo r0.name r0.args.l with
  |false=>rw [ha] at h;cases h
  |true=>
   rw [ha,cond_true] at h;split at h
   ·cases h
   ·split at h
    ·cases h
    ·split at h
     ·cases h
     ·split at h
      ·cases h
      ·rcases mem_cons.1 hr with rfl|hr
       ·exact ⟨ha,by omega,by omega⟩
       ·exact gZ h r hr
def ax(rs:List aR):List bQ:=rs.map (·.name)
def b7(rs:List aR):List eL.Edge:=mA (ax rs) rs
structure nK (rs:List aR):Prop where
 kH:rs.length<=60
 go:∃ m,dM rs []=some m
 lev:∃ k,eL.dR (b7 rs) (eL.iter (b7 rs) k)
theorem zW{rs:List aR}(qd:rs.length<=60)(tC:∀ r ∈ rs,r.body.l.length<=20):∀ k x,eL.iter (b7 rs) k x<=k*1200
 |0,x=>zero_le _
 |k+1,x=>by
  have h1:=Gs (E:=b7 rs) (L:=eL.iter (b7 rs) k) (N:=k*1200) (fun e he=>by obtain ⟨r,_,c,_,_,_,rfl⟩:=rS he;exact KO r c) (zW qd tC k) x;have h2:(b7 rs).length<=rs.length*20:=Jd _ rs tC;show (b7 rs).foldl eL.jf (eL.iter (b7 rs) k) x<=_;omega
def R8(m:fy)(nm:bQ)(n:Nat):Bool:=match m.find nm with|none=>true|some k=>decide (k=(n:Int))
theorem Je(m:fy)(nm:bQ)(n:Nat):Gr m nm n=if R8 m nm n=true then some (m.tP nm n) else none:=by
 unfold Gr R8
 cases m.find nm with
 |none=>rfl
 |some k=>by_cases h:k=(n:Int)<;>simp [h]
theorem Gu(n:Int):bE (encI n)=true:=rfl
theorem QJ(n:Int):ig [.int .i64 0] [(0,1)] [.int .i64 n]=some (encI n):=rfl
theorem UF(h:eU s=true):s.length<=12:=by
 cases s with
 |nil=>exact zero_le _
 |cons c s=>
  simp only [eU,and_eq_true] at h;simp only [decide_eq_true_eq] at h;omega
theorem Gv{xs:List bQ}(h:oo nm xs=true):eU nm=true:=by
 unfold oo at h;rw [and_eq_true] at h;exact h.1
def eu(t:Sl Int):List AV:=[an encI 1 t]
theorem MK(t:Sl Int):(eu t).length=1:=rfl
theorem tZ(t:Sl Int):AV.cN (eu t)=true:=by simp [eu,AV.cN,bI jj]
theorem ke{l:List (Sl Int)}{i:Nat}{t:Sl Int}(ht:l[i]?=some t):ah none (.dI (l.flatMap eu) (i*1)) h=some (an encI 1 t):=by
 rw [uH MK ht];rfl
section
variable {α:Type} {enc:α->List AV} {sz k:Nat}
end
abbrev PB:=Nat×List Int
def Cr(p:PB):List AV:=[.slice p.1 0 p.2.length 1]
theorem Gw(p:PB):(Cr p).length=1:=rfl
theorem UG(p:PB):bE (Cr p)=true:=rfl
structure xl (k:Nat) (h:ag) (a:AV) (ps:List PB):Prop where
 own:Own Cr 1 k h a ps
 cell:∀ p ∈ ps,k<=p.1/\p.1<h.next/\eP a≠some p.1/\h.get p.1=some (.cells (p.2.map iv))
theorem xl.nil(k:Nat)(h:ag):xl k h .au []:=⟨.nil,fun p hp=>by cases hp⟩
theorem xl.ext{k:Nat}{h h':ag}{a:AV}{ps:List PB}(n:xl k h a ps)(hx:bG h h'):xl k h' a ps:=
 ⟨n.own.ext hx,fun p hp=>by
  obtain ⟨h1,h2,h3,h4⟩:=n.cell p hp
  exact ⟨h1,Nat.lt_of_lt_of_le h2 hx.next,h3,by rw [hx.get _ h2];exact h4⟩⟩
theorem xl.Am{old:Bool}{ps:List PB}(n:xl k h a ps):∃ x:Sl (Sl Int),x.l.map Sl.l=ps.map (·.2)/\Fz old h a (an eu 1 x):=by
 obtain ⟨o,hc⟩:=n
 cases o with
 |nil=>exact ⟨none,rfl,.scalar _ rfl⟩
 |row b ps h1 h2 h3=>
  refine ⟨some (ps.map fun p=>some p.2),by simp [List.map_map,Function.comp_def],?_⟩
  have e1:ps.flatMap Cr=ps.map fun p=>AV.slice p.1 0 p.2.length 1:=by
   induction ps with
   |nil=>rfl
   |cons p ps ih=>rw [flatMap_cons,map_cons];exact congrArg _ (by
     clear ih h3 hc
     induction ps with
     |nil=>rfl
     |cons q ps ih=>rw [flatMap_cons,map_cons,ih];rfl)
  have e2:(ps.map fun p=>(some p.2:Sl Int)).flatMap eu=ps.map fun p=>an encI 1 (some p.2):=by
   clear h3 hc e1
   induction ps with
   |nil=>rfl
   |cons q ps ih=>rw [map_cons,flatMap_cons,map_cons,ih];rfl
  rw [e1] at h3
  have hf:Fz old h (.slice b 0 ps.length 1) (.ay (ps.map fun p=>an encI 1 (some p.2)) 0 ps.length 1):=by
   refine .slice b 0 ps.length 1 _ _ h3 (by simp) fun i x y hx hy=>?_;rw [getElem?_map] at hx hy;obtain ⟨p,hp,rfl⟩:=map_eq_some_iff.1 hx;rw [hp] at hy;cases hy;exact og (hc p (iA hp)).2.2.2
  have:an eu 1 (some (ps.map fun p=>(some p.2:Sl Int))) = .ay (ps.map fun p=>an encI 1 (some p.2)) 0 ps.length 1:=by
   simp only [an,e2,length_map]
  rw [this];exact hf
theorem xl.push{k:Nat}{h:ag}{a:AV}{ps:List PB}(n:xl k h a ps)(hk:k<=h.next)(rE:(ps.length+1)*24<=dw)(p:PB)(p1:k<=p.1)(p2:p.1<h.next)(p3:eP a≠some p.1)(p4:h.get p.1=some (.cells (p.2.map iv))) :
  ∃ a' h',cz 1 24 a (.slice h.next 0 1 1) (h.alloc (.cells (Cr p)))=some (a',h')/\xl k h' a' (ps++[p])/\h.next<=h'.next/\(∀ c,c<h.next->eP a≠some c->h'.get c=h.get c)/\(∀ h0,bG h0 h->h0.next<=k->bG h0 h')/\∀ c,eP a'=some c->h.next<=c:=by
 obtain ⟨a',h',e1,o1,f1,n1,x1,b1⟩:=n.own.push Gw UG hk rE p;refine ⟨a',h',e1,⟨o1,fun q hq=>?_⟩,n1,f1,x1,b1⟩
 have oS:k<=q.1/\q.1<h.next/\eP a≠some q.1/\h.get q.1=some (.cells (q.2.map iv)):=by
  rcases mem_append.1 hq with hq|hq
  ·exact n.cell q hq
  ·rw [mem_singleton] at hq;subst hq;exact ⟨p1,p2,p3,p4⟩
 obtain ⟨q1,q2,q3,q4⟩:=oS;exact ⟨q1,by omega,fun hb=>by have:=b1 _ hb;omega,by rw [f1 _ q2 q3];exact q4⟩
theorem xl.at_{ps:List PB}(n:xl k h a ps){i:Nat}{p:PB}(hp:ps[i]?=some p) :
  ∃ b,(∀ q:IntKind,dg 1 a (.int q (i:Int))=some (.ptr b (i*1)))/\b<h.next/\(∀ h',bG h h'->ah none (.ptr b (i*1)) h'=some (.slice p.1 0 p.2.length 1)):=by
 obtain ⟨b,b1,b2,b3,_,b5⟩:=n.own.get Gw hp;refine ⟨b,b3,b2,fun h' hx=>?_⟩;obtain ⟨b',_,_,c3,_,c5⟩:=(n.own.ext hx).get Gw hp;obtain rfl:b=b':=by have:=b3 .i64;rw [c3 .i64] at this;cases this;rfl
 have:=c5 0 (by omega);rw [Nat.add_zero] at this;rw [this];rfl
theorem UH{l:List Int}(hb:h.get b=some (.cells (l.map iv)))(IJ:b<h.next)(hl:l.length<=1000000)(x:Int) :
  ∃ b' h',cz 1 8 (.slice b 0 l.length 1) (.slice h.next 0 1 1) (h.alloc (.cells [.int .i64 x]))=some (.slice b' 0 (l++[x]).length 1,h')/\h'.get b'=some (.cells ((l++[x]).map iv))/\(∀ c,c<h.next->c≠b->h'.get c=h.get c)/\h.next<=b'/\b'<h'.next:=by
 have hm:dw=140737488355328:=rfl;have g:(h.alloc (.cells [.int .i64 x])).get h.next=some (.cells [.int .i64 x]):=aD _ _
 have g2:(h.alloc (.cells [.int .i64 x])).get b=some (.cells (l.map iv)):=by rw [ag.aW,if_neg (by omega)];exact hb
 refine ⟨h.next+1,((h.alloc (.cells [.int .i64 x])).set b .dead).alloc (.cells ((l++[x]).map iv)),?_,?_,fun c hc hcb=>?_,by omega,?_⟩
 ·have hf:jE 1 1 (.slice h.next 0 1 1) (h.alloc (.cells [.int .i64 x]))=some [.int .i64 x]:=by simp [jE,g]
  simp only [cz,nS,hf,if_true,g2];rw [if_neg (by decide),if_pos (by simp [bE,AV.one];omega)];simp only [ag.bq,ag.aV,drop_zero,Nat.mul_one];congr 2
  ·simp
  ·congr 2;rw [kB (by simp),map_append];rfl
 ·have:=aD ((h.alloc (.cells [.int .i64 x])).set b .dead) (.cells ((l++[x]).map iv))
  rwa [ag.bq,ag.aV] at this
 ·rw [ag.aW,ag.bq,ag.aV,if_neg (by omega),ag.aP,if_neg hcb,ag.aW,if_neg (by omega)]
 ·rw [ag.aV,ag.bq,ag.aV];omega
theorem KP(h1:1<=n){i:Nat}(h:i<=k):n ^ i<=n ^ k:=Nat.pow_le_pow_right h1 h
theorem xm(n:Nat):∀ (a b:List Int) (r:Nat),vY n (a++b) r=vY n b (vY n a r)
 |[],_,_=>rfl
 |x :: a,b,r=>xm n a b _
theorem QK{n:Nat}:∀ (l:List Int) (r i:Nat),iJ n l=true->r<n ^ i->vY n l r<n ^ (i+l.length)
 |[],r,i,_,h=>h
 |x :: l,r,i,hb,h=>by
  simp only [iJ,all_cons,and_eq_true,not_eq_true',decide_eq_false_iff_not] at hb
  have:r*n+x.toNat<n ^ (i+1):=by
   have h1:(r+1)*n<=n ^ i*n:=mul_le_mul_right n h;rw [succ_mul] at h1;rw [Nat.pow_succ];omega
  have:=QK l (r*n+x.toNat) (i+1) (by rw [iJ,List.all_eq_true];simpa using hb.2) this;rw [length_cons,show i+(l.length+1)=i+1+l.length by omega];exact this
theorem lX{l:List Int}(hb:iJ n l=true):iy n l<n ^ l.length:=by
 have:=QK l 0 0 hb (by simp);rw [Nat.zero_add] at this;exact this
theorem UI{l:List Int}{i:Nat}(hv:l[i]?=some v):iy n (l.take (i+1))=iy n (l.take i)*n+v.toNat:=by
 rw [iy,take_add_one,hv,xm];rfl
theorem Yr{n:Int}{l:List Int}(hb:iJ n l=true)(i:Nat):iJ n (l.take i)=true:=by
 unfold iJ at hb ⊢;rw [List.all_eq_true] at hb ⊢;exact fun x hx=>hb x (mem_of_mem_take hx)
theorem OX{n:Int}{l:List Int}(hb:iJ n l=true){i:Nat}(hv:l[i]?=some v):0<=v/\v<n:=by
 unfold iJ at hb;rw [List.all_eq_true] at hb;have:=hb v (iA hv);simp at this;omega
theorem pT{l:List Int}(hb:iJ n l=true)(h1:1<=n)(hc:n ^ l.length<=4096){i:Nat}(hv:l[i]?=some v) :
  aL .mul (.int .i64 ((iy n (l.take i):Nat):Int)) (.int .i64 (n:Int))=some (.int .i64 ((iy n (l.take i)*n:Nat):Int)) /\
  aL .add (.int .i64 ((iy n (l.take i)*n:Nat):Int)) (.int .i64 v)=some (.int .i64 ((iy n (l.take (i+1)):Nat):Int)):=by
 have hi:i<l.length:=(oB.1 hv).1;have eM:iy n (l.take (i+1))<n ^ (l.take (i+1)).length:=lX (Yr hb _);have hp:n ^ (l.take (i+1)).length<=4096:=Nat.le_trans (KP h1 (by rw [length_take];omega)) hc;obtain ⟨v0,v1⟩:=OX hb hv;have he:iy n (l.take (i+1))=iy n (l.take i)*n+v.toNat:=UI hv;have hm:((iy n (l.take i):Nat):Int)*(n:Int)=((iy n (l.take i)*n:Nat):Int):=by rw [Int.natCast_mul]
 have hs:((iy n (l.take i)*n:Nat):Int)+v=((iy n (l.take (i+1)):Nat):Int):=by omega
 exact ⟨by rw [yh (by rw [hm];omega) (by rw [hm];omega),hm],by rw [je (by rw [hs];omega) (by rw [hs];omega),hs]⟩
def ji:List Int->List Int->Bool
 |a :: l,b :: m=>if a=b then ji l m else decide (a<b)
 |_,_=>false
structure Rel where
 name:bQ
 arity:Int
 bW:Sl (Sl Int)
structure eG where
 size:Int
 aY:Sl Rel
def Im(p:Nat->Bool)(n:Nat):Bool:=(List.range n).all p
def nL(n k:Nat)(l:List (Sl Int))(i:Nat):Bool:=match l[i]? with
 |none=>true
 |some t=>decide (t.l.length=k)&&(iJ n t.l&&(match i with
  |0=>true
  |j+1=>match l[j]? with
   |none=>true
   |some p=>ji p.l t.l))
def yT(n k:Nat)(l:List (Sl Int)):Bool:=Im (nL n k l) l.length
def oG(n:Nat)(r:Rel):Bool:=eU r.name&&(decide (0<=r.arity)&&(decide (r.arity<=12)&&(decide (n ^ r.arity.toNat<=4096)&&yT n r.arity.toNat r.bW.l)))
def rT(s:eG)(i:Nat):Bool:=match s.aY.l[i]? with
 |none=>true
 |some r=>oG s.size.toNat r&&!((s.aY.l.take i).any fun q=>q.name==r.name)
def dU(s:eG):Bool:=decide (1<=s.size)&&(decide (s.size<=64)&&(decide (s.aY.l.length<=8)&&Im (rT s) s.aY.l.length))
theorem ML{es:List Entry}{ck:Nat}{m:nW}(hb:h.get b=some (.map es ck))(hm:qL es m)(z:AV)(k:bQ) :
  dc .string z false (.map b) (.str k) h=some ((m.find k).getD z):=by
 obtain ⟨r,hr,oE⟩:=qL.jB (k:=k) 0 hm;simp only [dc,lH,hb,pK,pJ,if_true,hr]
 cases r with
 |none=>simp at oE;simp [oE]
 |some jv=>
  obtain ⟨n,_,b,_⟩:=oE;obtain ⟨j,v⟩:=jv;simp [b]
def bv(b:Bool):AV:=.bool b
theorem Bg{i:Nat}{v:Bool}(hb:h.get b=some (.cells (d.map bv)))(hv:d[i]?=some v):ah none (.ptr b i) h=some (.bool v):=by
 rw [ai hb,nJ,getElem?_map,hv];rfl
theorem xo{i:Nat}{v:Bool}(hb:h.get b=some (.cells (d.map bv)))(hi:i<d.length):bh 1 (.ptr b i) (.bool v) h=some (h.set b (.cells ((d.set i v).map bv))):=by
 rw [cJ (n:=1) hb rfl rfl (by simp;omega),map_set];rfl
theorem aa1(n:Nat):jL [.bool false] n=(replicate n false).map bv:=by
 induction n with
 |zero=>rfl
 |succ n ih=>rw [jL,ih];rfl
theorem EN(hn:n<=1000000)(h:ag):fo 1 1 [.bool false] (.int .i64 (n:Int)) (.int .i64 (n:Int)) h=some (.slice h.next 0 n 1,h.alloc (.cells ((replicate n false).map bv))):=by
 have:((n:Int))<=140737488355328:=by omega
 simp [fo,zw,this,aa1]
def kI(n:Nat):List (Sl Int)->List Bool->List Bool
 |[],d=>d
 |t :: ts,d=>kI n ts (d.set (iy n t.l) true)
theorem Cs{l:List (Sl Int)}{i:Nat}{t:Sl Int}(ht:l[i]?=some t)(d:List Bool):kI n (l.drop i) d=kI n (l.drop (i+1)) (d.set (iy n t.l) true):=by
 have h1:=(oB.1 ht).1;rw [drop_eq_getElem_cons h1];rw [ec h1] at ht;cases ht;rfl
theorem Gx(n:Nat):∀ (l:List (Sl Int)) (d:List Bool),(kI n l d).length=d.length
 |[],_=>rfl
 |t :: l,d=>by rw [kI,Gx n l];simp
def bitsOf(n k:Nat)(ts:List (Sl Int)):List Bool:=kI n ts (replicate (n ^ k) false)
theorem nu(n k:Nat)(ts:List (Sl Int)):(bitsOf n k ts).length=n ^ k:=by rw [bitsOf,Gx];simp
structure eT (D:bQ->Option (Nat×List Bool)) (h:ag) (B lo:Nat):Prop where
 ex:∃ es ck m,h.get B=some (.map es ck)/\qL es m/\∀ nm,m.find nm=(D nm).map fun p=>.slice p.1 0 p.2.length 1
 mc:∀ nm p,D nm=some p->lo<=p.1/\p.1<h.next/\p.1≠B/\h.get p.1=some (.cells (p.2.map bv))
 inj:∀ nm KQ p p',D nm=some p->D KQ=some p'->p.1=p'.1->nm=KQ
 lt:B<h.next
theorem eT.ext{lo:Nat}(b:eT D h B lo)(hx:bG h h'):eT D h' B lo:=by
 obtain ⟨es,ck,m,h1,h2,h3⟩:=b.ex;refine ⟨⟨es,ck,m,by rw [hx.get _ b.lt];exact h1,h2,h3⟩,fun nm p hp=>?_,b.inj,Nat.lt_of_lt_of_le b.lt hx.next⟩;obtain ⟨q1,q2,q3,q4⟩:=b.mc nm p hp;exact ⟨q1,Nat.lt_of_lt_of_le q2 hx.next,q3,by rw [hx.get _ q2];exact q4⟩
def dz(r:Rel):bQ×Int×List (List Int):=(r.name,r.arity,r.bW.l.map Sl.l)
abbrev R9:=bQ×Int×List (List Int)
def Ys(n:Nat)(ds:List R9)(nm:bQ)(r:Nat):Prop:=∃ d ∈ ds,d.1=nm/\∃ u ∈ d.2.2,iy n u=r
def Gy(d:R9):bQ×Int:=(d.1,d.2.1)
def mU(D:bQ->Option (Nat×List Bool))(nm:bQ)(b:Nat)(d:List Bool):bQ->Option (Nat×List Bool):=fun j=>if j=nm then some (b,d) else D j
theorem eT.set{D:bQ->Option (Nat×List Bool)}{h:ag}{B lo:Nat}(H:eT D h B lo){nm:bQ}{p:Nat×List Bool}(hp:D nm=some p){d:List Bool}(hd:d.length=p.2.length):eT (mU D nm p.1 d) (h.set p.1 (.cells (d.map bv))) B lo:=by
 obtain ⟨es,ck,m,h1,h2,h3⟩:=H.ex;obtain ⟨k1,k2,k3,k4⟩:=H.mc nm p hp;refine ⟨⟨es,ck,m,by rw [ag.aP,if_neg (Ne.symm k3)];exact h1,h2,fun j=>?_⟩,fun j q hq=>?_,fun j j' q q' hq oS hqq=>?_,by rw [ag.bq];exact H.lt⟩
 ·rw [h3];unfold mU;by_cases e:j=nm
  ·subst e;rw [if_pos rfl,hp,map_some,map_some,hd]
  ·rw [if_neg e]
 ·unfold mU at hq;by_cases e:j=nm
  ·rw [if_pos e] at hq;cases hq;exact ⟨k1,by rw [ag.bq];exact k2,k3,by rw [ag.aP,if_pos rfl]⟩
  ·rw [if_neg e] at hq;obtain ⟨q1,q2,q3,q4⟩:=H.mc j q hq;exact ⟨q1,by rw [ag.bq];exact q2,q3,by rw [ag.aP,if_neg (fun e'=>e (H.inj j nm q p hq hp e'))];exact q4⟩
 ·unfold mU at hq oS;by_cases e:j=nm
  ·by_cases e':j'=nm
   ·rw [e,e']
   ·rw [if_pos e] at hq;rw [if_neg e'] at oS;cases hq;exact absurd (H.inj nm j' p q' hp oS hqq).symm e'
  ·by_cases e':j'=nm
   ·rw [if_neg e] at hq;rw [if_pos e'] at oS;cases oS;exact absurd (H.inj j nm q p hq hp hqq) e
   ·rw [if_neg e] at hq;rw [if_neg e'] at oS;exact H.inj j j' q q' hq oS hqq
theorem Gz{R:AV}(hS:h.get S=some (.cells [.int .i64 (n:Int),R]))(h1:1<=n){x:Sl Int}(hx:x.l.length<=12)(hc:n ^ x.l.length<=4096)(hb:iJ n x.l=true)
  (hK:K (.ret (.int .i64 ((iy n x.l:Nat):Int))) h=true):Sem TP 69 [.ptr S 0,an encI 1 x] h K:=by
 have j8:x.l.length<=cu:=by unfold cu;omega
 refine F.pO ?_;rw [F.qw];simp only [aS,reduceAdd,reduceEqDiff,reduceIte];refine aG 0 x.l.length (zero_le _) (fun i e h'=>h'=h/\e 0 = .ptr S 0/\e 5 = .int .i64 ((iy n (x.l.take i):Nat):Int)/\e 8=an encI 1 x/\e 9 = .int .i64 (x.l.length:Int)/\e 10 = .int .i64 (i:Int)) ⟨rfl,rfl,rfl,rfl,rfl,rfl⟩ ?_ ?_
 ·rintro i e h' _ hi ⟨rfl,e0,e5,e8,e9,jH⟩ K' hn iY hr hp;have hv:x.l[i]?=some x.l[i]:=ec hi;rw [F.dN.aT];simp only [e0,e5,e8,e9,jH,aS,reduceAdd,reduceEqDiff,reduceIte,bD,ai hS,bl hi,aU x hi,fS hv,(pT hb h1 hc hv).1,(pT hb h1 hc hv).2,aK hi j8];exact hn _ _ ⟨rfl,e0,rfl,e8,e9,rfl⟩
 ·rintro e h' ⟨rfl,e0,e5,e8,e9,jH⟩ K' iY;rw [F.dN.aT];simp only [e9,jH,aS,reduceAdd,reduceEqDiff,reduceIte,aX];rw [iY,F.dN.aJ];simp only [e5,bg,reduceEqDiff,reduceIte];rw [kB (dK _)];exact hK
def aM(vs:List Int)(ps:List Nat):List Int:=ps.map fun p=>vs.getD p 0
theorem Bh(hV:h.get V=some (.cells (vs.map iv)))(Ls:V<h.next)(hn:n=vs.length){ps:List Nat}{x:Sl Int}(hxp:x.l=ps.map fun (p:Nat)=>(p:Int))(si:∀ p ∈ ps,p<vs.length)(mM:ps.length<=1000000)
  (hK:∀ h',h'.get h.next=some (.cells ((aM vs ps).map iv))->bG h h'->h.next<h'.next->K (.ret (.slice h.next 0 ps.length 1)) h'=true):Sem TP 124 [.slice V 0 n 1,an encI 1 x] h K:=by
 subst hn;have ZM:ps.length<=cu:=by unfold cu;omega
 have hl:x.l.length=ps.length:=by rw [hxp];simp
 refine F.wT ?_;rw [F.zc];simp only [aS,reduceAdd,reduceEqDiff,reduceIte,hl,uV mM];have g0:=aD h (.cells ((replicate ps.length (0:Int)).map iv));have x0:=bG.alloc h (.cells ((replicate ps.length (0:Int)).map iv));have n0:(h.alloc (.cells ((replicate ps.length (0:Int)).map iv))).next=h.next+1:=ag.aV _ _
 generalize h.alloc (.cells ((replicate ps.length (0:Int)).map iv))=H at g0 x0 n0 ⊢
 refine aG 0 ps.length (zero_le _) (fun i e h'=>∃ d:List Int,d.length=ps.length/\d.take i=(aM vs ps).take i/\h'.get h.next=some (.cells (d.map iv))/\bG h h'/\h.next<h'.next /\
  e 0 = .slice V 0 vs.length 1/\e 5 = .slice h.next 0 ps.length 1/\e 11=an encI 1 x/\e 12 = .int .i64 (ps.length:Int)/\e 13 = .int .i64 (i:Int)) ⟨replicate ps.length 0,by simp,rfl,g0,x0,by omega,rfl,rfl,rfl,rfl,rfl⟩ ?_ ?_
 ·rintro i e h' _ hi ⟨d,dl,dt,q0,qx,qn,e0,e5,jX,oX,uY⟩ K' hn hx hr hp;have hv:ps[i]?=some ps[i]:=ec hi;generalize ps[i]=p at hv;have NP:x.l[i]?=some (p:Int):=by rw [hxp,getElem?_map,hv];rfl
  have WZ:=si p (iA hv);have hw:vs[p]?=some (vs.getD p 0):=by rw [getD_eq_getElem?_getD,ec WZ];rfl
  have qV:h'.get V=some (.cells (vs.map iv)):=by rw [qx.get V Ls];exact hV
  have i1:=aU (enc:=encI) (sz:=1) (k:=.i64) x (i:=i) (by rw [hl];exact hi);have l1:=fun h=>fS (x:=x) NP (h:=h);rw [F.iB.aT];simp only [e0,e5,jX,oX,uY,aS,reduceAdd,reduceEqDiff,reduceIte,bl hi,i1,l1,kF WZ,oe qV hw,kF hi,pR q0 (show i<d.length by omega),aK hi ZM];refine hn _ _ ⟨d.set i (vs.getD p 0),by simp [dl],?_,by rw [ag.aP,if_pos rfl],qx.set (dK _) _,by rw [ag.bq];exact qn,e0,e5,jX,oX,rfl⟩;have UJ:(aM vs ps)[i]?=some (vs.getD p 0):=by unfold aM;rw [getElem?_map,hv];rfl
  rw [take_add_one,take_add_one,UJ,take_set_of_le (dK _),dt,getElem?_set,if_pos rfl,if_pos (by omega)]
 ·rintro e h' ⟨d,dl,dt,q0,qx,qn,e0,e5,jX,oX,uY⟩ K' hx;rw [F.iB.aT];simp only [oX,uY,aS,reduceAdd,reduceEqDiff,reduceIte,aX];rw [hx,F.iB.aJ];simp only [e5,bg,reduceEqDiff,reduceIte]
  have:d=aM vs ps:=by
   have h1:d.take ps.length=d:=kB (by omega);have h2:(aM vs ps).take ps.length=aM vs ps:=kB (by simp [aM]);rw [<- h1,dt,h2]
  rw [this] at q0;exact hK h' q0 qx qn
theorem Dl{T:Nat}{R:AV}(hS:h.get S=some (.cells [.int .i64 (n:Int),R]))(h1:1<=n){t:List Int}(hT:h.get T=some (.cells (t.map iv)))(hx:t.length<=12)(hc:n ^ t.length<=4096)(hb:iJ n t=true)
  (hK:K (.ret (.int .i64 ((iy n t:Nat):Int))) h=true):Sem TP 69 [.ptr S 0,.slice T 0 t.length 1] h K:=by
 have j8:t.length<=cu:=by unfold cu;omega
 have hl:∀ h,b6 .slice (.slice T 0 t.length 1) h=some (.int .i64 (t.length:Int)):=fun _=>rfl;refine F.pO ?_;rw [F.qw];simp only [aS,reduceAdd,reduceEqDiff,reduceIte,hl];refine aG 0 t.length (zero_le _) (fun i e h'=>h'=h/\e 0 = .ptr S 0/\e 5 = .int .i64 ((iy n (t.take i):Nat):Int)/\e 8 = .slice T 0 t.length 1/\e 9 = .int .i64 (t.length:Int)/\e 10 = .int .i64 (i:Int)) ⟨rfl,rfl,rfl,rfl,rfl,rfl⟩ ?_ ?_
 ·rintro i e h' _ hi ⟨rfl,e0,e5,e8,e9,jH⟩ K' hn iY hr hp;have hv:t[i]?=some t[i]:=ec hi;rw [F.dN.aT];simp only [e0,e5,e8,e9,jH,aS,reduceAdd,reduceEqDiff,reduceIte,bD,ai hS,bl hi,kF hi,oe hT hv,(pT hb h1 hc hv).1,(pT hb h1 hc hv).2,aK hi j8];exact hn _ _ ⟨rfl,e0,rfl,e8,e9,rfl⟩
 ·rintro e h' ⟨rfl,e0,e5,e8,e9,jH⟩ K' iY;rw [F.dN.aT];simp only [e9,jH,aS,reduceAdd,reduceEqDiff,reduceIte,aX];rw [iY,F.dN.aJ];simp only [e5,bg,reduceEqDiff,reduceIte];rw [kB (dK _)];exact hK
def dA(D:bQ->Option (Nat×List Bool))(nm:bQ)(r:Nat):Bool:=match D nm with|some p=>p.2.getD r false|none=>false
theorem eT.look{lo:Nat}(b:eT D h B lo)(hp:D nm=some p):dc .string .au false (.map B) (.str nm) h=some (.slice p.1 0 p.2.length 1):=by
 obtain ⟨es,ck,m,h1,h2,h3⟩:=b.ex;rw [ML h1 h2,h3,hp];rfl
def dy(n:Nat)(look:bQ->Nat->Bool)(c:dD)(t:List Int):Bool:=
 (if c.kind=0 then look c.name (iy n t) else if c.kind=1 then decide (t.getD 0 0=t.getD 1 0) else decide (t.getD 0 0<t.getD 1 0)) != c.neg
theorem Dm{lo T:Nat}(hS:h.get S=some (.cells [.int .i64 (n:Int),.map B]))(hD:eT D h B lo)(n1:1<=n){c:dD}{t:List Int}(hT:h.get T=some (.cells (t.map iv)))(hTn:T<h.next)(Yt:S<h.next)
  (ht:t.length<=12) (hb:iJ n t=true) (hc:c.kind=0->n ^ t.length<=4096/\∃ p,D c.name=some p/\p.2.length=n ^ t.length) (hk:c.kind=1\/c.kind=2->t.length=2) (wE:c.kind=0\/c.kind=1\/c.kind=2)
  (hK:∀ h',bG h h'->K (.ret (.bool (dy n (dA D) c t))) h'=true):Sem TP 129 [.ptr S 0,.agg [.int .i64 c.kind,.bool c.neg,.str c.name,an encS 1 c.args],.slice T 0 t.length 1] h K:=by
 refine F.vR ?_;rw [F.wU];have hbx:eR (.agg [.int .i64 c.kind,.bool c.neg,.str c.name,an encS 1 c.args])=some (bR c):=cG (gQ c);have g0:(ag.alloc h (.cells (bR c))).get h.next=some (.cells (bR c)):=aD _ _
 have gx:bG h (ag.alloc h (.cells (bR c))):=bG.alloc _ _;simp only [hbx,aq];generalize (ag.alloc h (.cells (bR c)))=H at g0 gx ⊢;have gS:H.get S=some (.cells [.int .i64 (n:Int),.map B]):=by rw [gx.get S Yt];exact hS
 have gT:H.get T=some (.cells (t.map iv)):=by rw [gx.get T hTn];exact hT
 have gD:=hD.ext gx;simp only [aS,reduceAdd,reduceEqDiff,reduceIte,ai g0,bR,ct];by_cases k0:c.kind=0
 ·obtain ⟨vZ,p,hp,mM⟩:=hc k0;have sj:iy n t<p.2.length:=by rw [mM];exact lX hb
  have oI:p.2[iy n t]?=some (p.2.getD (iy n t) false):=by rw [getD_eq_getElem?_getD,ec sj];rfl
  obtain ⟨_,_,_,gp⟩:=gD.mc c.name p hp;simp only [ey k0,aF,aS,reduceAdd,reduceEqDiff,reduceIte,bD,ai gS,ai g0,bR,gD.look hp];refine aj (Dl gS n1 gT ht vZ hb ?_);simp only [aS,reduceAdd,reduceEqDiff,reduceIte,ai gS,ai g0,bR,gD.look hp,AV.beq_refl,Bool.and_self,Bool.and_true,if_true,kF sj,Bg gp oI,EI];have hv:dy n (dA D) c t = !(p.2.getD (iy n t) false==c.neg):=by unfold dy dA;rw [if_pos k0,hp];rfl
  rw [<- hv];exact hK H gx
 ·have h2:t.length=2:=hk (wE.resolve_left k0);have v0:t[0]?=some (t.getD 0 0):=by rw [getD_eq_getElem?_getD,ec (by omega:0<t.length)];rfl
  have v1:t[1]?=some (t.getD 1 0):=by rw [getD_eq_getElem?_getD,ec (by omega:1<t.length)];rfl
  have i0:dg 1 (.slice T 0 t.length 1) (.int .i64 0)=some (.ptr T 0):=kF (i:=0) (by omega);have i1:dg 1 (.slice T 0 t.length 1) (.int .i64 1)=some (.ptr T 1):=kF (i:=1) (by omega);simp only [ep k0,aE];by_cases k1:c.kind=1
  ·simp only [ey k1,aF,i0,i1,oe gT v0,oe gT v1,aS,reduceAdd,reduceEqDiff,reduceIte,ai g0,bR,ct,EI];have hv:dy n (dA D) c t = !(decide (t.getD 0 0=t.getD 1 0)==c.neg):=by unfold dy;rw [if_neg k0,if_pos k1];rfl
   rw [<- hv];exact hK H gx
  ·have k2:c.kind=2:=(wE.resolve_left k0).resolve_left k1;simp only [ep k1,aE,ey k2,aF,i0,i1,oe gT v0,oe gT v1,aS,reduceAdd,reduceEqDiff,reduceIte,ai g0,bR,EI];have hv:dy n (dA D) c t = !(decide (t.getD 0 0<t.getD 1 0)==c.neg):=by unfold dy;rw [if_neg k0,if_neg k1];rfl
   rw [<- hv];exact hK H gx
theorem Sa(hx:x.l.length<=cu)(hs:s ∈ x.l)(hK:K (.ret (.int .i64 (x.l.idxOf s:Int))) h=true):Sem TP 157 [an encS 1 x,.str s] h K:=by
 refine F.jR ?_;rw [F.j5];simp only [aS,reduceAdd,reduceEqDiff,reduceIte];refine aG 0 x.l.length (zero_le _) (fun i e h'=>h'=h/\e 0=an encS 1 x/\e 1 = .str s/\e 7 = .int .i64 (x.l.length:Int)/\e 8 = .int .i64 (i:Int)/\i<=x.l.idxOf s) ⟨rfl,rfl,rfl,rfl,rfl,zero_le _⟩ ?_ ?_
 ·rintro i e h' _ hi ⟨rfl,e0,e1,e7,e8,ht⟩ K' hn iY hr vK;have hv:x.l[i]?=some x.l[i]:=ec hi;have eM:x.l.idxOf s<x.l.length:=idxOf_lt_length_of_mem hs;rw [F.bN.aT];simp only [e0,e1,e7,e8,aS,reduceAdd,reduceEqDiff,reduceIte,bl hi,aU x hi,jz hv,sR];by_cases hq:s=x.l[i]
  ·simp only [ey hq,aF];rw [hr,F.bN.bt]
   have:x.l.idxOf s=i:=by
    refine Nat.le_antisymm ?_ ht;refine Nat.le_of_not_lt fun h=>?_;have h2:=not_of_lt_findIdx (p:=fun a=>a==s) (xs:=x.l) (i:=i) h;simp [<- hq] at h2
   rw [this] at hK;exact hK
  ·simp only [ep hq,aE,aK hi hx,aq];refine hn _ _ ⟨rfl,e0,e1,e7,rfl,?_⟩;refine Nat.lt_of_le_of_ne ht fun h=>?_;have h3:x.l[x.l.idxOf s]=s:=getElem_idxOf eM;exact hq (by rw [<- h3];congr 1;exact h.symm)
 ·rintro e h' ⟨rfl,e0,e1,e7,e8,ht⟩ K' iY;have eM:x.l.idxOf s<x.l.length:=idxOf_lt_length_of_mem hs;omega
def placesOf(vars xs:List bQ):List Nat:=xs.map fun s=>vars.idxOf s
theorem MM{vars:Sl bQ}(hV:h.get V=some (.cells [an encS 1 vars]))(Ls:V<h.next)(fh:∀ s ∈ xs.l,s ∈ vars.l)(hx:xs.l.length<=1000000)(hv:vars.l.length<=cu)
  (hK:∀ a h',Own encI 1 h.next h' a ((placesOf vars.l xs.l).map fun (p:Nat)=>(p:Int))->bG h h'->K (.ret a) h'=true):Sem TP 156 [an encS 1 xs,.ptr V 0] h K:=by
 have NV:xs.l.length<=cu:=by unfold cu;omega
 refine F.zR ?_;rw [F.AW];simp only [aS,reduceAdd,reduceEqDiff,reduceIte];refine aG 0 xs.l.length (zero_le _) (fun i e h'=>∃ a,Own encI 1 h.next h' a ((placesOf vars.l (xs.l.take i)).map fun (p:Nat)=>(p:Int))/\bG h h'/\e 1 = .ptr V 0/\e 4=a/\e 7=an encS 1 xs/\e 8 = .int .i64 (xs.l.length:Int)/\e 9 = .int .i64 (i:Int)) ⟨.au,.nil,bG.refl _,rfl,rfl,rfl,rfl,rfl⟩ ?_ ?_
 ·rintro i e h' _ hi ⟨a,o,qx,e1,e4,e7,e8,e9⟩ K' hn iY hr hp;have hs:xs.l[i]?=some xs.l[i]:=ec hi;generalize xs.l[i]=s at hs;have qV:h'.get V=some (.cells [an encS 1 vars]):=by rw [qx.get V Ls];exact hV
  rw [F.gq.aT];simp only [e1,e4,e7,e8,e9,aS,reduceAdd,reduceEqDiff,reduceIte,bl hi,aU xs hi,jz hs,ai qV];refine aj (Sa hv (fh s (iA hs)) ?_);obtain ⟨a2,h2,p1,p2,p3,p4,p5,p6⟩:=o.push rJ Gu qx.next (bytes:=8) (by have:=length_take_le i xs.l;simp only [placesOf,length_map];unfold dw;omega) (vars.l.idxOf s:Int)
  simp only [aS,reduceAdd,reduceEqDiff,reduceIte,e4,QJ,p1,e9,aK hi NV];refine hn _ _ ⟨a2,?_,p5 h qx (dK _),e1,rfl,e7,e8,rfl⟩;have:placesOf vars.l (xs.l.take (i+1))=placesOf vars.l (xs.l.take i)++[vars.l.idxOf s]:=by unfold placesOf;rw [take_add_one,hs];simp
  rw [this];simpa using p2
 ·rintro e h' ⟨a,o,qx,e1,e4,e7,e8,e9⟩ K' iY;rw [F.gq.aT];simp only [e8,e9,aS,reduceAdd,reduceEqDiff,reduceIte,aX];rw [iY,F.gq.aJ];rw [kB (dK _)] at o;simp only [e4,bg,reduceEqDiff,reduceIte];exact hK a h' o qx
abbrev RW:=Option (Nat×List Int)
def RW.av:RW->AV
 |none=>.au
 |some p=>.slice p.1 0 p.2.length 1
def RW.l:RW->List Int
 |none=>[]
 |some p=>p.2
def Bi(w:RW):List AV:=[w.av]
theorem MN(w:RW):(Bi w).length=1:=rfl
theorem UK(w:RW):bE (Bi w)=true:=by cases w<;>rfl
theorem afS(w:RW):ig [.au] [(0,1)] [w.av]=some (Bi w):=by cases w<;>rfl
theorem UL{l:List Int}(o:Own encI 1 k h a l):∃ w:RW,a=w.av/\w.l=l/\∀ p,w=some p->k<=p.1/\p.1<h.next/\h.get p.1=some (.cells (p.2.map iv)):=by
 cases o with
 |nil=>exact ⟨none,rfl,rfl,fun p hp=>by cases hp⟩
 |row b l h1 h2 h3=>exact ⟨some (b,l),rfl,rfl,fun p hp=>by cases hp;exact ⟨h1,h2,by rw [tB];exact h3⟩⟩
theorem row_one{enc:α->List AV}(he:∀ x,(enc x).length=sz){v:α}(hb:h.get b=some (.cells (enc v))):Row enc sz h (.slice b 0 1 sz) [v]:=by
 refine ⟨rfl,?_⟩;have hl:(enc v).length=sz:=he v;simp only [jE,hb,if_true,length_singleton,Nat.one_mul,Nat.zero_add,hl,dK,drop_zero];rw [<- hl,take_length];simp
structure Lt (k:Nat) (h:ag) (cW lW:AV) (ws:List RW) (ls:List Int) (held:List RW):Prop where
 oc:Own Bi 1 k h cW ws
 ol:Own encI 1 k h lW ls
 ok:∀ w ∈ held,∀ p,w=some p->k<=p.1/\p.1<h.next/\h.get p.1=some (.cells (p.2.map iv))/\eP cW≠some p.1/\eP lW≠some p.1
 sep:∀ b,eP cW=some b->eP lW≠some b
theorem Lt.ext{k:Nat}{h h':ag}{cW lW:AV}{ws:List RW}{ls:List Int}{held:List RW}(t:Lt k h cW lW ws ls held)(hx:bG h h'):Lt k h' cW lW ws ls held:=
 ⟨t.oc.ext hx,t.ol.ext hx,fun w hw p hp=>by
  obtain ⟨q1,q2,q3,q4⟩:=t.ok w hw p hp
  exact ⟨q1,Nat.lt_of_lt_of_le q2 hx.next,by rw [hx.get _ q2];exact q3,q4⟩,t.sep⟩
theorem Lt.hold{ws:List RW}{ls:List Int}{held:List RW}(t:Lt k h cW lW ws ls held){w:RW}(hj:∀ p,w=some p->j<=p.1/\k<=p.1/\p.1<h.next/\h.get p.1=some (.cells (p.2.map iv)))
  (hc:∀ b,eP cW=some b->b<j) (hl:∀ b,eP lW=some b->b<j):Lt k h cW lW ws ls (held++[w]):=
 ⟨t.oc,t.ol,fun v hv p hp=>by
  rcases mem_append.1 hv with hv|hv
  ·exact t.ok v hv p hp
  ·rw [mem_singleton] at hv;subst hv;obtain ⟨q1,q2,q3,q4⟩:=hj p hp
   exact ⟨q2,q3,q4,fun h=>by have:=hc _ h;omega,fun h=>by have:=hl _ h;omega⟩,t.sep⟩
theorem Lt.low{ws:List RW}{ls:List Int}{held:List RW}(t:Lt k h cW lW ws ls held){d:Nat}(hd:d<k)(x:mP):Lt k (h.set d x) cW lW ws ls held:=
 ⟨t.oc.uW hd x,t.ol.uW hd x,fun w hw p hp=>by
  obtain ⟨q1,q2,q3,q4⟩:=t.ok w hw p hp
  exact ⟨q1,by rw [ag.bq];exact q2,by rw [ag.aP,if_neg (by omega)];exact q3,q4⟩,t.sep⟩
theorem Lt.push{ws:List RW}{ls:List Int}{held:List RW}(t:Lt k h cW lW ws ls held)(hk:k<=h.next)(hw:ws.length<=1000000)(hl:ls.length<=1000000)(w:RW)(x:Int) :
  ∃ c' l' h2 h3,cz 1 24 cW (.slice h.next 0 1 1) ((h.alloc (.cells (Bi w))).alloc (.cells (encI x)))=some (c',h2)/\cz 1 8 lW (.slice (h.next+1) 0 1 1) h2=some (l',h3) /\
   Lt k h3 c' l' (ws++[w]) (ls++[x]) held/\(∀ c,c<k->h2.get c=h.get c/\h3.get c=h.get c)/\h.next<=h3.next:=by
 have g0:((h.alloc (.cells (Bi w))).alloc (.cells (encI x))).get h.next=some (.cells (Bi w)):=by
  rw [ag.aW,ag.aV,if_neg (by omega)];exact aD _ _
 have g1:((h.alloc (.cells (Bi w))).alloc (.cells (encI x))).get (h.next+1)=some (.cells (encI x)):=aD _ _;have gx:bG h ((h.alloc (.cells (Bi w))).alloc (.cells (encI x))):=(bG.alloc _ _).trans (bG.alloc _ _);have gn:((h.alloc (.cells (Bi w))).alloc (.cells (encI x))).next=h.next+2:=rfl
 generalize ((h.alloc (.cells (Bi w))).alloc (.cells (encI x)))=H at g0 g1 gx gn ⊢;have tH:=t.ext gx;have cge:∀ b,eP cW=some b->k<=b/\b<h.next:=fun b hb=>⟨t.oc.ge hb,t.oc.lt hb⟩
 have lge:∀ b,eP lW=some b->k<=b/\b<h.next:=fun b hb=>⟨t.ol.ge hb,t.ol.lt hb⟩
 obtain ⟨c',h2,p1,p2,p3,p4,p5⟩:=tH.oc.append MN UK (row_one MN g0) (by omega) (bytes:=24) (by simp only [length_singleton];unfold dw;omega);have afT:=p5 (by simp);have e1:h2.get (h.next+1)=some (.cells (encI x)):=by rw [p3 _ (by omega) (fun hb=>by have:=(cge _ hb).2;omega)];exact g1
 have ol2:Own encI 1 k h2 lW ls:=by
  have o:=tH.ol
  cases o with
  |nil=>exact .nil
  |row b l q1 q2 q3=>exact .row b _ q1 (by omega) (by rw [p3 b q2 (fun hb=>t.sep b hb rfl)];exact q3)
 obtain ⟨l',h3,r1,r2,r3,r4,r5⟩:=ol2.append rJ Gu (row_one rJ e1) (by omega) (bytes:=8) (by simp only [length_singleton];unfold dw;omega);have afU:=r5 (by simp)
 have oc3:Own Bi 1 k h3 c' (ws++[w]):=by
  generalize hL:ws++[w]=L at p2
  cases p2 with
  |nil=>exact .nil
  |row b l q1 q2 q3=>exact .row b _ q1 (by omega) (by rw [r3 b q2 (fun hb=>by have:=(lge _ hb).2;have:=afT b rfl;omega)];exact q3)
 refine ⟨c',l',h2,h3,p1,r1,⟨oc3,r2,fun v hv p hp=>?_,fun b hb fY=>?_⟩,fun c hc=>?_,by omega⟩
 ·obtain ⟨q1,q2,q3,q4,q5⟩:=t.ok v hv p hp;have a1:h2.get p.1=some (.cells (p.2.map iv)):=by rw [p3 _ (by omega) q4,gx.get _ q2];exact q3
  refine ⟨q1,by omega,by rw [r3 _ (by omega) q5];exact a1,fun h=>by have:=afT _ h;omega,fun h=>by have:=afU _ h;omega⟩
 ·have:=p2.lt hb;have:=afU b fY;omega
 ·have a1:h2.get c=h.get c:=by rw [p3 c (by omega) (fun hb=>by have:=(cge _ hb).1;omega),gx.get c (by omega)]
  exact ⟨a1,by rw [r3 c (by omega) (fun hb=>by have:=(lge _ hb).1;omega)];exact a1⟩
theorem UM:∀ ws:List RW,ws.flatMap Bi=ws.map RW.av
 |[]=>rfl
 |w :: ws=>by rw [flatMap_cons,map_cons,UM ws];rfl
theorem UN:∀ ws:List RW,(ws.map fun w=>(w.map (·.2):Sl Int)).flatMap eu=ws.map fun w=>an encI 1 (w.map (·.2))
 |[]=>rfl
 |w :: ws=>by rw [map_cons,flatMap_cons,map_cons,UN ws];rfl
theorem Lt.Am{ws:List RW}{ls:List Int}{held:List RW}(t:Lt k h cW lW ws ls held)(hs:∀ w ∈ ws,w ∈ held):∃ x:Sl (Sl Int),x.l.map Sl.l=ws.map RW.l/\Fz true h cW (an eu 1 x):=by
 have jV:∀ w ∈ held,Fz true h w.av (an encI 1 (w.map (·.2))):=fun w hw=>by
  cases w with
  |none=>exact .dP rfl
  |some p=>exact og (t.ok _ hw p rfl).2.2.1
 obtain ⟨o,_,_,_⟩:=t
 cases o with
 |nil=>exact ⟨none,rfl,.dP rfl⟩
 |row b ws h1 h2 h3=>
  refine ⟨some (ws.map fun w=>(w.map (·.2):Sl Int)),?_,?_⟩
  ·simp only [Sl.OL,List.map_map];refine map_congr_left fun w _=>?_;cases w<;>rfl
  ·have e1:=UM ws;have e2:=UN ws;rw [e1] at h3
   have hf:Fz true h (.slice b 0 ws.length 1) (.ay (ws.map fun w=>an encI 1 (w.map (·.2))) 0 ws.length 1):=by
    refine .slice b 0 ws.length 1 _ _ h3 (by simp) fun i x y hx hy=>?_;rw [getElem?_map] at hx hy;obtain ⟨w,hw,rfl⟩:=map_eq_some_iff.1 hx;rw [hw] at hy;cases hy;exact jV w (hs w (iA hw))
   have:an eu 1 (some (ws.map fun w=>(w.map (·.2):Sl Int))) = .ay (ws.map fun w=>an encI 1 (w.map (·.2))) 0 ws.length 1:=by
    simp only [an,e2,length_map]
   rw [this];exact hf
def ou(xs:List bQ):Bool:=xs.all eU&&decide (xs.length<=12)
theorem eO{x:Sl bQ}(hx:x.l.length<=cu){h:ag}{K:Out->ag->Bool}(hK:K (.ret (.bool (ou x.l))) h=true):Sem TP 134 [an encS 1 x] h K:=by
 refine F.DP ?_;rw [F.FL];refine aG 0 x.l.length (zero_le _) (fun i e h'=>h'=h/\e 0=an encS 1 x/\e 3 = .int .i64 (i:Int)/\(x.l.take i).all eU=true) ⟨rfl,rfl,rfl,rfl⟩ ?_ ?_
 ·rintro i e h' _ hi ⟨rfl,e0,e3,ht⟩ K' hn iY hr vK;have hv:x.l[i]?=some x.l[i]:=ec hi;generalize x.l[i]=s at hv;rw [F.eO.aT];simp only [e0,e3,aS,reduceAdd,reduceEqDiff,reduceIte,bl hi,aU x hi,jz hv];refine aj (fq ?_);simp only [aS,reduceAdd,reduceEqDiff,reduceIte]
  cases hq:eU s with
  |false=>
   simp only [Bool.not_false,aF];rw [hr,F.eO.bt];have:ou x.l=false:=by unfold ou;rw [all_false hv hq,Bool.false_and]
   rw [this] at hK;exact hK
  |true=>
   simp only [Bool.not_true,aE,aK hi hx,aq];exact hn _ _ ⟨rfl,e0,rfl,kj hv ht hq⟩
 ·rintro e h' ⟨rfl,e0,e3,ht⟩ K' iY;rw [F.eO.aT];simp only [e0,e3,aS,reduceAdd,reduceEqDiff,reduceIte,aX];rw [iY,F.eO.aJ];simp only [e0,aS,reduceAdd,reduceEqDiff,reduceIte];rw [kB (dK _)] at ht;have:ou x.l=decide ((x.l.length:Int)<=12):=by unfold ou;rw [ht,Bool.true_and];by_cases h:x.l.length<=12<;>simp<;>omega
  rw [this] at hK;exact hK
def xp(r:aR):List bQ:=r.args.l++r.body.l.flatMap fun c=>c.args.l
theorem zg(o a b:List bQ):fL o (a++b)=fL (fL o a) b:=by unfold fL;rw [foldl_append]
theorem zh:∀ (cs:List dD) (o:List bQ),lU o cs=fL o (cs.flatMap fun c=>c.args.l)
 |[],o=>rfl
 |c :: cs,o=>by
  rw [flatMap_cons,zg];exact zh cs (fL o c.args.l)
theorem zX(r:aR):varsOf r=fL [] (xp r):=by
 unfold varsOf xp;rw [zg,zh]
theorem MO{r:aR}(hf:r.kH)(i:Nat):(r.args.l++(r.body.l.take i).flatMap fun c=>c.args.l).length<=3000000:=by
 have:∀ (cs:List dD),(∀ c ∈ cs,c.args.l.length<=1500)->(cs.flatMap fun c=>c.args.l).length<=cs.length*1500:=by
  intro cs
  induction cs with
  |nil=>intro _;simp
  |cons c cs ih=>
   intro h;have h1:=ih fun d hd=>h d (mem_cons_of_mem _ hd);have h2:=h c mem_cons_self;rw [flatMap_cons,length_append,length_cons];omega
 have h1:=this (r.body.l.take i) fun c hc=>hf.2.2 c (mem_of_mem_take hc);have h2:=length_take_le i r.body.l;have h4:=length_take_le' i r.body.l;have:=hf.1;have:=hf.2.1;rw [length_append];omega
theorem bU{r:aR}(hf:r.kH){h:ag}{K:Out->ag->Bool}(hK:∀ x:Sl bQ,x.l=varsOf r->K (.ret (an encS 1 x)) h=true) :
  Sem TP 44 [.agg [.str r.name,an encS 1 r.args,an bR 4 r.body]] h K:=by
 have pH:r.body.l.length<=cu:=by have:=hf.2.1;unfold cu;omega
 have main:Sem TP 44 [.agg [.str r.name,an encS 1 r.args,an bR 4 r.body]] ag.empty (fun o h'=>yes (∃ v,∃ x:Sl bQ,o = .ret v/\x.l=varsOf r/\Fz true h' v (an encS 1 x))):=by
  refine F.yP ?_;rw [F.zQ];have hb:eR (.agg [.str r.name,an encS 1 r.args,an bR 4 r.body])=some (aO r):=cG (jJ r);have jV:ig [] [] []=some []:=rfl;simp only [hb,jV,aq,bA,ag.aV];have g0:(ag.alloc (ag.alloc ag.empty (.cells (aO r))) (.cells [])).get 0=some (.cells (aO r)):=by simp [ag.aW,bA]
  have g1:(ag.alloc (ag.alloc ag.empty (.cells (aO r))) (.cells [])).get 1=some (.cells (([]:List bQ).flatMap encS)):=by simp [ag.aW,bA]
  have gn:(ag.alloc (ag.alloc ag.empty (.cells (aO r))) (.cells [])).next=2:=rfl
  generalize (ag.alloc (ag.alloc ag.empty (.cells (aO r))) (.cells []))=H at g0 g1 gn ⊢;have o0:Own encS 1 1 H (.slice (0+1) 0 0 1) []:=.row 1 [] (dK _) (by omega) g1;obtain ⟨a1,h1,p1,p2,p3,p4,p5⟩:=o0.append jP rO (KL jP r.args H) (by omega) (bytes:=16) (by have:=hf.1;unfold dw;simp only [length_nil];omega);have Tw:h1.get 0=some (.cells (aO r)):=by rw [p3 0 (by omega) (fun hb=>by simp [eP] at hb)];exact g0
  simp only [aS,reduceAdd,reduceEqDiff,reduceIte,ai g0,aO];simp only [p1,aS,reduceAdd,reduceEqDiff,reduceIte]
  refine aG 0 r.body.l.length (zero_le _) (fun i e h'=>∃ a,h'.get 0=some (.cells (aO r))/\2<=h'.next/\Own encS 1 1 h' a (r.args.l++(r.body.l.take i).flatMap fun c=>c.args.l)/\e 1 = .ptr 0 0/\e 3=a/\e 4 = .int .i64 (i:Int))
   ⟨a1,Tw,by omega,by simpa using p2,rfl,rfl,rfl⟩ ?_ ?_
  ·rintro i e h' _ hi ⟨a,q0,qn,o,e1,e3,e4⟩ K' hn hx hr hp;have hv:r.body.l[i]?=some r.body.l[i]:=ec hi;generalize r.body.l[i]=c at hv;have hc:=hf.2.2 c (iA hv);obtain ⟨a2,h2,s1,s2,s3,s4,s5⟩:=o.append jP rO (KL jP c.args h') (by omega) (bytes:=16) (by have:=MO hf i;unfold dw;omega);have ld:∀ j,j<4->∀ h,ah none (.dI (r.body.l.flatMap bR) (i*4+j)) h=(bR c)[j]?:=fun j hj h=>fE gh hv hj;rw [F.bU.aT];simp only [e1,e3,e4,aS,reduceAdd,reduceEqDiff,reduceIte,ai q0,aO,bl hi,aU r.body hi];simp only [aS,reduceAdd,reduceEqDiff,reduceIte,Nat.add_assoc,reduceAdd,ld 3 (by omega),bR,s1,aK hi pH];refine hn _ _ ⟨a2,?_,by omega,?_,e1,rfl,rfl⟩
   ·rw [s3 0 (by omega) (fun hb=>by have:=o.ge hb;omega)];exact q0
   ·rw [take_add_one,hv,flatMap_append,<- append_assoc];simpa using s2
  ·rintro e h' ⟨a,q0,qn,o,e1,e3,e4⟩ K' hx;rw [kB (dK _)] at o;have yJ:(xp r).length<=3000000:=by have:=MO hf r.body.l.length;rw [kB (dK _)] at this;exact this
   have zM:(xp r).length<=cu:=by unfold cu;omega
   have o':Own encS 1 1 h' a (xp r):=o;rw [F.bU.aT];simp only [e1,e4,aS,reduceAdd,reduceEqDiff,reduceIte,ai q0,aO,aX];rw [hx,F.bU.aJ]
   refine aG 0 (xp r).length (zero_le _) (fun i e h2=>∃ b,bG h' h2/\Own encS 1 h'.next h2 b (fL [] ((xp r).take i))/\e 3=a/\e 5=b/\e 6 = .int .i64 (i:Int))
    ⟨.au,bG.refl _,by simpa [fL] using Own.nil,by simp only [bg,reduceEqDiff,reduceIte,e3],rfl,rfl⟩ ?_ ?_
   ·rintro i e h2 _ hi ⟨b,x2,ob,e3,e5,e6⟩ K2 hn iu hr hp;have hv:(xp r)[i]?=some (xp r)[i]:=ec hi;generalize (xp r)[i]=s at hv;have oa:=o'.ext x2;obtain ⟨q,_,g1,g2⟩:=Ba oa hv
    have hlb:(fL [] ((xp r).take i)).length<=3000000:=by
     have h1:=rQ ((xp r).take i) [];have h2:=length_take_le' i (xp r);simp only [length_nil] at h1;omega
    have afV:((fL [] ((xp r).take i)).any fun x=>x==s)=(fL [] ((xp r).take i)).any fun x=>s==x:=by
     congr 1;funext x;exact Bool.eq_iff_iff.2 ⟨fun h=>by rw [beq_iff_eq] at h ⊢;exact h.symm,fun h=>by rw [beq_iff_eq] at h ⊢;exact h.symm⟩
    have ej:=Di (o:=[]) hv;unfold Cq at ej;rw [F.bU.eC];simp only [e3,e5,e6,oa.len,aS,reduceAdd,reduceEqDiff,reduceIte,bl hi,g1,g2];refine aj (dY ob (by unfold cu;omega) ?_);rw [afV];simp only [aS,reduceAdd,reduceEqDiff,reduceIte]
    cases hq:(fL [] ((xp r).take i)).any fun x=>s==x with
    |true=>
     rw [hq,if_pos rfl] at ej;simp only [Bool.not_true,aE,aK hi zM,aq];exact hn _ _ ⟨b,x2,by rw [ej];exact ob,e3,e5,rfl⟩
    |false=>
     rw [hq,if_neg (by simp)] at ej;obtain ⟨b2,h3,p1,p2,p3,p4,p5,p6⟩:=ob.push jP rO x2.next (bytes:=16) (by unfold dw;omega) s
     simp only [Bool.not_false,aF,e3,e5,e6,g1,g2,aS,reduceAdd,reduceEqDiff,reduceIte,ZK,p1,aK hi zM];exact hn _ _ ⟨b2,p5 h' x2 (dK _),by rw [ej];exact p2,e3,rfl,rfl⟩
   ·rintro e h2 ⟨b,x2,ob,e3,e5,e6⟩ K2 iu;have oa:=o'.ext x2;rw [F.bU.eC];simp only [e3,e6,oa.len,aS,reduceAdd,reduceEqDiff,reduceIte,aX];rw [iu,F.bU.cZ];rw [kB (dK _),<- zX] at ob;simp only [bg,reduceEqDiff,reduceIte,e5]
    obtain ⟨x,jG,iu⟩:=ob.MF (fun v y hy=>by
     simp only [encS,mem_cons,not_mem_nil,_root_.or_false] at hy
     subst hy;exact .scalar _ rfl)
    exact cO.2 ⟨b,x,rfl,jG,iu⟩
 refine main.frozen (by have:=dW r;simpa [aO,AV.cN,AV.pure] using this) fun o h' ho=>?_;obtain ⟨v,x,rfl,hx,Tu⟩:=cO.1 ho;exact ⟨v,_,rfl,Tu,hK x hx⟩
def QL(a b:Int):Int:=if b>a then b else a
theorem MP(a b:Int):tL true (.int .i64 a) [.int .i64 b]=some (.int .i64 (QL a b)):=by simp [tL,J2,QL]
def iZ(ps:List Nat):Int:=ps.foldl (fun a (p:Nat)=>QL a (p:Int)) (-1)
theorem UO{t:bQ}:s ∈ Cq o t↔s ∈ o\/s=t:=by
 unfold Cq;split
 ·rename_i h;obtain ⟨x,hx,hq⟩:=List.any_eq_true.1 h;rw [beq_iff_eq] at hq;exact ⟨.inl,fun h=>h.elim id fun e=>by rw [e,hq];exact hx⟩
 ·simp
theorem GA{s:bQ}:∀ {l o:List bQ},s ∈ fL o l↔s ∈ o\/s ∈ l
 |[],o=>by simp [fL]
 |t :: l,o=>by
  show s ∈ fL (Cq o t) l↔_;rw [GA,UO,mem_cons,_root_.or_assoc]
theorem MQ{r:aR}:s ∈ varsOf r↔s ∈ xp r:=by rw [zX,GA];simp
theorem jl{r:aR}:∀ s ∈ r.args.l,s ∈ varsOf r:=fun s hs=>MQ.2 (mem_append_left _ hs)
theorem jm{r:aR}{c:dD}(hc:c ∈ r.body.l):∀ s ∈ c.args.l,s ∈ varsOf r:=fun s hs=>MQ.2 (mem_append_right _ (mem_flatMap.2 ⟨c,hc,hs⟩))
def iH(vars xs:List bQ):List Int:=(placesOf vars xs).map fun (p:Nat)=>(p:Int)
theorem UP(i n:Int)(nm:bQ)(xs:Sl bQ)(ys:Sl dD)(w:RW):jM [.int .i64 0,.str [],.au,.au,.int .i64 0,.au,.au,.au] [(0,1),(1,3),(4,1),(5,1)] [.int .i64 i,.agg [.str nm,an encS 1 xs,an bR 4 ys],.int .i64 n,w.av]=some (.agg [.int .i64 i,.str nm,an encS 1 xs,an bR 4 ys,.int .i64 n,w.av,.au,.au]):=by
 cases xs<;>cases ys<;>cases w<;>rfl
theorem UQ(s:St):dV TP s Tryz.f109.results.toList=(match ah (some 8) (s.env 4) s.h,(some []:Option (List AV)) with|some v,some vs=>some (v :: vs)|_,_=>none):=by kernel_rfl
theorem QM(a b c d e f g i:AV):kC (some 8) [a,b,c,d,e,f,g,i] 0=some (.agg [a,b,c,d,e,f,g,i]):=rfl
def bu(i:Int)(r:aR)(n:Int)(hd c l:AV):List AV:=[.int .i64 i,.str r.name,an encS 1 r.args,an bR 4 r.body,.int .i64 n,hd,c,l]
theorem MR(i:Int)(r:aR)(n:Int)(w:RW){c l:AV}(hc:bE [c]=true)(hl:bE [l]=true):bE (bu i r n w.av c l)=true:=by
 have hw:w.av.one=true:=by cases w<;>rfl
 unfold bu;simp only [bE,Bool.and_true] at hc hl ⊢;simp only [mj,hw,hc,hl,Bool.and_true];rfl
theorem UR{P:Nat}{cs vs:List AV}(hP:h.get P=some (.cells cs))(hc:cs.length=8)(hv:vs.length=8)(h1:bE vs=true):bh 8 (.ptr P 0) (.agg vs) h=some (h.set P (.cells vs)):=by
 rw [cJ hP (by exact hv) (by exact h1) (by omega)];congr 1
 match cs,hc,vs,hv with
 |[a,b,c,d,e,f,g,i],_,[a',b',c',d',e',f',g',i'],_=>rfl
set_option maxHeartbeats 2000000 in
theorem cI{i0:Int}{r:aR}(hf:r.kH){h:ag}{K:Out->ag->Bool}
  (hK:∀ (hd:Sl Int) (cs:Sl (Sl Int)) (ls:Sl Int),hd.l=iH (varsOf r) r.args.l->cs.l.map Sl.l=r.body.l.map (fun c=>iH (varsOf r) c.args.l)->ls.l=r.body.l.map (fun c=>iZ (placesOf (varsOf r) c.args.l)) ->
   K (.ret (.agg (bu i0 r (varsOf r).length (an encI 1 hd) (an eu 1 cs) (an encI 1 ls)))) h=true) :
  Sem TP 109 [.int .i64 i0,.agg [.str r.name,an encS 1 r.args,an bR 4 r.body]] h K:=by
 have pH:r.body.l.length<=cu:=by have:=hf.2.1;unfold cu;omega
 have tI:(varsOf r).length<=3000000:=by have:=MI hf r.body.l.length;rw [kB (dK _)] at this;exact this
 have gen:∀ R:Out->ag->Bool,(∀ (h':ag) (qy:RW) (cW lW:AV) (cs:Sl (Sl Int)) (ls:Sl Int),Fz true h' qy.av (an encI 1 (qy.map (·.2)))->qy.l=iH (varsOf r) r.args.l->Fz true h' cW (an eu 1 cs)->Fz true h' lW (an encI 1 ls) ->
   cs.l.map Sl.l=r.body.l.map (fun c=>iH (varsOf r) c.args.l)->ls.l=r.body.l.map (fun c=>iZ (placesOf (varsOf r) c.args.l))->R (.ret (.agg (bu i0 r (varsOf r).length qy.av cW lW))) h'=true) ->
   Sem TP 109 [.int .i64 i0,.agg [.str r.name,an encS 1 r.args,an bR 4 r.body]] ag.empty R:=by
  intro R fin;refine F.B6 ?_;rw [F.DT];have hb:eR (.agg [.str r.name,an encS 1 r.args,an bR 4 r.body])=some (aO r):=cG (jJ r);simp only [hb,aq,bA,ag.aV];have g0:(ag.alloc (ag.alloc ag.empty (.cells (aO r))) (.cells [.int .i64 0,.str [],.au,.au,.int .i64 0,.au,.au,.au])).get 0=some (.cells (aO r)):=by simp [ag.aW,bA]
  have g1:(ag.alloc (ag.alloc ag.empty (.cells (aO r))) (.cells [.int .i64 0,.str [],.au,.au,.int .i64 0,.au,.au,.au])).get 1=some (.cells [.int .i64 0,.str [],.au,.au,.int .i64 0,.au,.au,.au]):=by simp [ag.aW,bA]
  have gn:(ag.alloc (ag.alloc ag.empty (.cells (aO r))) (.cells [.int .i64 0,.str [],.au,.au,.int .i64 0,.au,.au,.au])).next=2:=rfl
  generalize (ag.alloc (ag.alloc ag.empty (.cells (aO r))) (.cells [.int .i64 0,.str [],.au,.au,.int .i64 0,.au,.au,.au]))=H at g0 g1 gn ⊢;simp only [ai g0,aO,om,aq];refine aj (dO hf fun x jG=>?_);have NV:x.l.length<=cu:=by rw [jG];unfold cu;omega
  obtain ⟨H3,hs3,k2,ko,kn⟩:=nt (h:=H) (z:=.au) (v:=an encS 1 x) (by cases x<;>rfl) (by simp only [bE,mj];rfl);have q0:H3.get 0=some (.cells (aO r)):=by rw [ko 0 (by omega)];exact g0
  have q1:H3.get 1=some (.cells [.int .i64 0,.str [],.au,.au,.int .i64 0,.au,.au,.au]):=by rw [ko 1 (by omega)];exact g1
  rw [gn] at hs3 k2;simp only [aS,reduceAdd,reduceEqDiff,reduceIte,gn,hs3];simp only [aS,reduceAdd,reduceEqDiff,reduceIte,ai q0,ai k2,aO,om,show H3.next=3 by omega];have gx:=bG.alloc H3 (.cells [.int .i64 0,.str [],.au,.au,.int .i64 0,.au,.au,.au])
  have g3:(H3.alloc (.cells [.int .i64 0,.str [],.au,.au,.int .i64 0,.au,.au,.au])).get 3=some (.cells [.int .i64 0,.str [],.au,.au,.int .i64 0,.au,.au,.au]):=by
   have:=aD H3 (.cells [.int .i64 0,.str [],.au,.au,.int .i64 0,.au,.au,.au]);rw [show H3.next=3 by omega] at this;exact this
  have gn3:(H3.alloc (.cells [.int .i64 0,.str [],.au,.au,.int .i64 0,.au,.au,.au])).next=4:=by rw [ag.aV];omega
  generalize (H3.alloc (.cells [.int .i64 0,.str [],.au,.au,.int .i64 0,.au,.au,.au]))=H4 at gx g3 gn3 ⊢;have p0:H4.get 0=some (.cells (aO r)):=by rw [gx.get 0 (by omega)];exact q0
  have p1:H4.get 1=some (.cells [.int .i64 0,.str [],.au,.au,.int .i64 0,.au,.au,.au]):=by rw [gx.get 1 (by omega)];exact q1
  have p2:H4.get 2=some (.cells [an encS 1 x]):=by rw [gx.get 2 (by omega)];exact k2
  refine aj (MM p2 (by omega) (fun s hs=>by rw [jG];exact jl s hs) (by have:=hf.1;omega) NV fun a h5 oa x5=>?_);rw [gn3] at oa;obtain ⟨qy,rfl,Ct,hdk⟩:=UL oa;have r0:h5.get 0=some (.cells (aO r)):=by rw [x5.get 0 (by omega)];exact p0
  have r1:h5.get 1=some (.cells [.int .i64 0,.str [],.au,.au,.int .i64 0,.au,.au,.au]):=by rw [x5.get 1 (by omega)];exact p1
  have r2:h5.get 2=some (.cells [an encS 1 x]):=by rw [x5.get 2 (by omega)];exact p2
  have r3:h5.get 3=some (.cells [.int .i64 0,.str [],.au,.au,.int .i64 0,.au,.au,.au]):=by rw [x5.get 3 (by omega)];exact g3
  have rn:=x5.next
  have ic:=UR (vs:=bu i0 r (varsOf r).length qy.av .au .au) r3 rfl rfl (MR _ _ _ _ rfl rfl);have wk:=UP i0 (varsOf r).length r.name r.args r.body qy;rw [<- jG] at ic wk;simp only [aS,reduceAdd,reduceEqDiff,reduceIte,ai r0,ai r2,aO,om,AV.beq_refl,Bool.and_self,Bool.and_true,if_true,wk];simp only [bu] at ic;simp only [ic,aS,reduceAdd,reduceEqDiff,reduceIte]
  have t0:Lt 4 (h5.set 3 (.cells (bu i0 r x.l.length qy.av .au .au))) .au .au [] [] [qy]:=
   (Lt.low ⟨.nil,.nil,fun w hw p hp=>by
    rw [mem_singleton] at hw;subst hw;obtain ⟨a1,a2,a3⟩:=hdk p hp
    exact ⟨a1,a2,a3,by simp [eP],by simp [eP]⟩,fun b hb=>by simp [eP] at hb⟩ (by omega) _)
  have s0:(h5.set 3 (.cells (bu i0 r x.l.length qy.av .au .au))).get 0=some (.cells (aO r)):=by rw [ag.aP,if_neg (by omega)];exact r0
  have s1:(h5.set 3 (.cells (bu i0 r x.l.length qy.av .au .au))).get 1=some (.cells [.int .i64 0,.str [],.au,.au,.int .i64 0,.au,.au,.au]):=by rw [ag.aP,if_neg (by omega)];exact r1
  have s2:(h5.set 3 (.cells (bu i0 r x.l.length qy.av .au .au))).get 2=some (.cells [an encS 1 x]):=by rw [ag.aP,if_neg (by omega)];exact r2
  have s3:(h5.set 3 (.cells (bu i0 r x.l.length qy.av .au .au))).get 3=some (.cells (bu i0 r x.l.length qy.av .au .au)):=by rw [ag.aP,if_pos rfl]
  have sn:(h5.set 3 (.cells (bu i0 r x.l.length qy.av .au .au))).next=h5.next:=ag.bq _ _ _
  simp only [bu] at t0 s0 s1 s2 s3 sn;generalize (h5.set 3 (.cells [.int .i64 i0,.str r.name,an encS 1 r.args,an bR 4 r.body,.int .i64 (x.l.length:Int),qy.av,.au,.au]))=H6 at t0 s0 s1 s2 s3 sn ⊢;simp only [ai s0,aO,aS,reduceAdd,reduceEqDiff,reduceIte]
  refine aG 0 r.body.l.length (zero_le _) (fun i e h'=>∃ cW lW ws ls,Lt 4 h' cW lW ws ls (qy :: ws)/\ws.map RW.l=(r.body.l.take i).map (fun c=>iH (varsOf r) c.args.l)/\ls=(r.body.l.take i).map (fun c=>iZ (placesOf (varsOf r) c.args.l)) /\
   h'.get 1=some (.cells [.int .i64 0,.str [],.au,.au,.int .i64 0,.au,.au,.au])/\h'.get 2=some (.cells [an encS 1 x])/\h'.get 3=some (.cells [.int .i64 i0,.str r.name,an encS 1 r.args,an bR 4 r.body,.int .i64 (x.l.length:Int),qy.av,cW,lW])/\4<=h'.next /\
   e 4 = .ptr 1 0/\e 6 = .func 156 [] [.ptr 2 0]/\e 7 = .ptr 3 0/\e 28=an bR 4 r.body/\e 29 = .int .i64 (r.body.l.length:Int)/\e 30 = .int .i64 (i:Int))
   ⟨.au,.au,[],[],t0,rfl,rfl,s1,s2,s3,by omega,rfl,rfl,rfl,rfl,rfl,rfl⟩ ?_ ?_
  ·rintro i e h' _ hi ⟨cW,lW,ws,ls,tw,hws,Io,u1,u2,u3,un,e4,e6,e7,e28,ZN,ZO⟩ K' hn hx hr hp;have hv:r.body.l[i]?=some r.body.l[i]:=ec hi;generalize r.body.l[i]=c at hv;have mu:=iA hv;have ajB:=hf.2.2 c mu;obtain ⟨H2,qX,c1,co,cn⟩:=cR (h:=h') (zs:=[.int .i64 0,.bool false,.str [],.au]) (cs:=bR c) (n:=4) rfl rfl (gQ c);have x2:bG h' H2:=⟨by omega,fun b hb=>co b (by omega)⟩
   rw [F.cI.aT];simp only [e6,e28,ZN,ZO,aS,reduceAdd,reduceEqDiff,reduceIte,bl hi,aU r.body hi,cX gh hv,qX];simp only [aS,reduceAdd,reduceEqDiff,reduceIte,ai c1,bR,ju,nil_append,cons_append];refine aj (MM (xs:=c.args) (by rw [x2.get 2 (by omega)];exact u2) (by omega) (fun s hs=>by rw [jG];exact jm mu s hs) (by omega) NV fun a h3 oa x3=>?_);rw [jG] at oa;obtain ⟨w,rfl,hwl,hwk⟩:=UL oa;have QF:=x2.trans x3;have tw3:=tw.ext QF;have v1:h3.get 1=some (.cells [.int .i64 0,.str [],.au,.au,.int .i64 0,.au,.au,.au]):=by rw [QF.get 1 (by omega)];exact u1
   have v2:h3.get 2=some (.cells [an encS 1 x]):=by rw [QF.get 2 (by omega)];exact u2
   have v3:h3.get 3=some (.cells [.int .i64 i0,.str r.name,an encS 1 r.args,an bR 4 r.body,.int .i64 (x.l.length:Int),qy.av,cW,lW]):=by rw [QF.get 3 (by omega)];exact u3
   have vn:=QF.next
   have twh:Lt 4 h3 cW lW ws ls (qy :: ws++[w]):=tw3.hold (j:=H2.next) (fun p hp=>by
    obtain ⟨a1,a2,a3⟩:=hwk p hp
    exact ⟨a1,by omega,a2,a3⟩) (fun b hb=>by have:=tw.oc.lt hb;omega) (fun b hb=>by have:=tw.ol.lt hb;omega)
   have mM:(placesOf (varsOf r) c.args.l).length<=cu:=by unfold placesOf cu;rw [length_map];omega
   have hlen:∀ h,b6 .slice w.av h=some (.int .i64 ((placesOf (varsOf r) c.args.l).length:Int)):=fun h=>by rw [oa.len];simp
   simp only [aS,reduceAdd,reduceEqDiff,reduceIte,hlen]
   refine aG 0 (placesOf (varsOf r) c.args.l).length (zero_le _) (fun j e h2=>h2=h3/\e 4 = .ptr 1 0/\e 6 = .func 156 [] [.ptr 2 0]/\e 7 = .ptr 3 0/\e 28=an bR 4 r.body/\e 29 = .int .i64 (r.body.l.length:Int)/\e 30 = .int .i64 (i:Int) /\
    e 10=w.av/\e 11 = .int .i64 (iZ ((placesOf (varsOf r) c.args.l).take j))/\e 39=w.av/\e 40 = .int .i64 ((placesOf (varsOf r) c.args.l).length:Int)/\e 41 = .int .i64 (j:Int)) ⟨rfl,e4,e6,e7,e28,ZN,ZO,rfl,rfl,rfl,rfl,rfl⟩ ?_ ?_
   ·rintro j e h2 _ hj ⟨rfl,e4,e6,e7,e28,ZN,ZO,jH,jX,e39,e40,e41⟩ K2 qM iu vL Il;have NW:(placesOf (varsOf r) c.args.l)[j]?=some (placesOf (varsOf r) c.args.l)[j]:=ec hj;generalize (placesOf (varsOf r) c.args.l)[j]=p at NW;have hpi:((placesOf (varsOf r) c.args.l).map fun (p:Nat)=>(p:Int))[j]?=some (p:Int):=by rw [getElem?_map,NW];rfl
    obtain ⟨b,_,_,i1,_,i3⟩:=oa.get rJ hpi;have i3':ah none (.ptr b (j*1)) h2=some (.int .i64 (p:Int)):=i3 0 (by omega);rw [F.cI.eC];simp only [jX,e39,e40,e41,aS,reduceAdd,reduceEqDiff,reduceIte,bl hj,i1,i3',MP,aK hj mM];refine qM _ _ ⟨rfl,e4,e6,e7,e28,ZN,ZO,jH,?_,e39,e40,rfl⟩;have:iZ ((placesOf (varsOf r) c.args.l).take (j+1))=QL (iZ ((placesOf (varsOf r) c.args.l).take j)) (p:Int):=by unfold iZ;rw [take_add_one,NW];simp
    rw [this];rfl
   ·rintro e h2 ⟨rfl,e4,e6,e7,e28,ZN,ZO,jH,jX,e39,e40,e41⟩ K2 iu;rw [kB (dK _)] at jX;have apr:ws.length<=1500:=by have h1:=congrArg List.length hws;simp only [length_map] at h1;have h2:=length_take_le' i r.body.l;have:=hf.2.1;omega
    have aps:ls.length<=1500:=(by rw [Io,length_map];have h2:=length_take_le' i r.body.l;have:=hf.2.1;omega);obtain ⟨c',l',m2,m3,t1,t2,t3,t4,t5⟩:=twh.push (by omega) (by omega) (by omega) w (iZ (placesOf (varsOf r) c.args.l));have y3:m2.get 3=some (.cells [.int .i64 i0,.str r.name,an encS 1 r.args,an bR 4 r.body,.int .i64 (x.l.length:Int),qy.av,cW,lW]):=by rw [(t4 3 (by omega)).1];exact v3
    have z3:m3.get 3=some (.cells [.int .i64 i0,.str r.name,an encS 1 r.args,an bR 4 r.body,.int .i64 (x.l.length:Int),qy.av,cW,lW]):=(by rw [(t4 3 (by omega)).2];exact v3);obtain ⟨w1,w2⟩:=xj t3.oc;obtain ⟨w3,w4⟩:=xj t3.ol
    have st1:bh 1 (.ptr 3 6) c' m3=some (m3.set 3 (.cells [.int .i64 i0,.str r.name,an encS 1 r.args,an bR 4 r.body,.int .i64 (x.l.length:Int),qy.av,c',lW])):=by
     rw [cJ (n:=1) z3 (by rw [w1];rfl) (by rw [w1];exact w2) (by simp),w1];rfl
    have z4:(m3.set 3 (.cells [.int .i64 i0,.str r.name,an encS 1 r.args,an bR 4 r.body,.int .i64 (x.l.length:Int),qy.av,c',lW])).get 3=some (.cells [.int .i64 i0,.str r.name,an encS 1 r.args,an bR 4 r.body,.int .i64 (x.l.length:Int),qy.av,c',lW]):=by rw [ag.aP,if_pos rfl]
    have US:bh 1 (.ptr 3 7) l' (m3.set 3 (.cells [.int .i64 i0,.str r.name,an encS 1 r.args,an bR 4 r.body,.int .i64 (x.l.length:Int),qy.av,c',lW]))=some ((m3.set 3 (.cells [.int .i64 i0,.str r.name,an encS 1 r.args,an bR 4 r.body,.int .i64 (x.l.length:Int),qy.av,c',lW])).set 3 (.cells [.int .i64 i0,.str r.name,an encS 1 r.args,an bR 4 r.body,.int .i64 (x.l.length:Int),qy.av,c',l'])):=by
     rw [cJ (n:=1) z4 (by rw [w3];rfl) (by rw [w3];exact w4) (by simp),w3];rfl
    rw [F.cI.eC];simp only [e40,e41,aS,reduceAdd,reduceEqDiff,reduceIte,aX];rw [iu,F.cI.cZ];simp only [e7,jH,jX,ZO,aS,reduceAdd,reduceEqDiff,reduceIte,ai v3,afS,QJ,ag.aV];rw [ai (r:=none) (o:=7) (h:=(ag.alloc h2 (.cells (Bi w)))) (cs:=[.int .i64 i0,.str r.name,an encS 1 r.args,an bR 4 r.body,.int .i64 (x.l.length:Int),qy.av,cW,lW]) (by rw [ag.aW,if_neg (by omega)];exact v3)];simp only [aS,reduceAdd,reduceEqDiff,reduceIte,QJ,ag.aV,t1,ai y3,AV.beq_refl,Bool.and_self,if_true,t2,st1,US,aK hi pH];refine hn _ _ ⟨c',l',ws++[w],ls++[iZ (placesOf (varsOf r) c.args.l)],(t3.low (by omega) _).low (by omega) _,?_,?_,?_,?_,by rw [ag.aP,if_pos rfl],by rw [ag.bq,ag.bq];omega,e4,e6,e7,e28,ZN,rfl⟩
    ·rw [map_append,hws,take_add_one,hv,map_append];simp only [map_cons,map_nil,toList_some];rw [hwl];rfl
    ·rw [Io,take_add_one,hv,map_append];rfl
    ·rw [ag.aP,if_neg (by omega),ag.aP,if_neg (by omega),(t4 1 (by omega)).2];exact v1
    ·rw [ag.aP,if_neg (by omega),ag.aP,if_neg (by omega),(t4 2 (by omega)).2];exact v2
  ·rintro e h' ⟨cW,lW,ws,ls,tw,hws,Io,u1,u2,u3,un,e4,e6,e7,e28,ZN,ZO⟩ K' hx;rw [kB (dK _)] at hws Io;obtain ⟨_,w2⟩:=xj tw.oc;obtain ⟨_,w4⟩:=xj tw.ol;have afX:=UR (vs:=bu i0 r x.l.length qy.av cW lW) u1 rfl rfl (MR _ _ _ _ w2 w4);simp only [bu] at afX;rw [F.cI.aT];simp only [ZN,ZO,aS,reduceAdd,reduceEqDiff,reduceIte,aX];rw [hx,F.cI.aJ];simp only [e4,e7,aS,reduceAdd,reduceEqDiff,reduceIte,ai u3,QM,afX,UQ];have tf:=tw.low (by omega:1<4) (.cells [.int .i64 i0,.str r.name,an encS 1 r.args,an bR 4 r.body,.int .i64 (x.l.length:Int),qy.av,cW,lW]);have gf:(h'.set 1 (.cells [.int .i64 i0,.str r.name,an encS 1 r.args,an bR 4 r.body,.int .i64 (x.l.length:Int),qy.av,cW,lW])).get 1=some (.cells [.int .i64 i0,.str r.name,an encS 1 r.args,an bR 4 r.body,.int .i64 (x.l.length:Int),qy.av,cW,lW]):=by rw [ag.aP,if_pos rfl]
   simp only [bg,reduceEqDiff,reduceIte,e4,ai gf,QM,aq,oneOf];obtain ⟨cs,cs1,cs2⟩:=tf.Am (fun w hw=>mem_cons_of_mem _ hw)
   obtain ⟨lx,lx1,lx2⟩:=tf.ol.MF (fun v y hy=>by
    simp only [encI,mem_cons,not_mem_nil,_root_.or_false] at hy
    subst hy;exact .scalar _ rfl)
   have Tu:Fz true (h'.set 1 (.cells [.int .i64 i0,.str r.name,an encS 1 r.args,an bR 4 r.body,.int .i64 (x.l.length:Int),qy.av,cW,lW])) qy.av (an encI 1 (qy.map (·.2))):=by
    cases qy with
    |none=>exact .dP rfl
    |some p=>exact og (tf.ok _ mem_cons_self p rfl).2.2.1
   have:=fin _ qy cW lW cs lx Tu (by rw [<- jG];exact Ct) cs2 lx2 (by rw [cs1,hws]) (by rw [lx1,Io]);rw [<- jG] at this;exact this
 have main:=gen (fun o h'=>yes (∃ (qy:RW) (cW lW:AV) (cs:Sl (Sl Int)) (ls:Sl Int),o = .ret (.agg (bu i0 r (varsOf r).length qy.av cW lW))/\Fz true h' qy.av (an encI 1 (qy.map (·.2)))/\qy.l=iH (varsOf r) r.args.l/\Fz true h' cW (an eu 1 cs)/\Fz true h' lW (an encI 1 ls) /\
   cs.l.map Sl.l=r.body.l.map (fun c=>iH (varsOf r) c.args.l)/\ls.l=r.body.l.map (fun c=>iZ (placesOf (varsOf r) c.args.l)))) (fun h' qy cW lW cs ls f1 f2 f3 f4 f5 f6=>cO.2 ⟨qy,cW,lW,cs,ls,rfl,f1,f2,f3,f4,f5,f6⟩)
 refine main.frozen (by have:=dW r;simpa [aO,AV.cN,AV.pure] using this) fun o h' ho=>?_;obtain ⟨qy,cW,lW,cs,ls,rfl,f1,f2,f3,f4,f5,f6⟩:=cO.1 ho
 have fl:kD true h' (bu i0 r (varsOf r).length qy.av cW lW) (bu i0 r (varsOf r).length (an encI 1 (qy.map (·.2))) (an eu 1 cs) (an encI 1 ls)):=
  .cons (.scalar _ rfl) (.cons (.scalar _ rfl) (.cons (.dP (bI jk _)) (.cons (.dP (bI Gn _)) (.cons (.scalar _ rfl) (.cons f1 (.cons f3 (.cons f4 .nil)))))))
 exact ⟨_,_,rfl,.agg _ _ fl.len fl.rel,hK (qy.map (·.2)) cs ls (by rw [<- f2];cases qy<;>rfl) f5 f6⟩
theorem fM(vs:List Int)(ps:List Nat):(aM vs ps).length=ps.length:=by simp [aM]
theorem iD(hb:iJ n vs=true){ps:List Nat}(si:∀ p ∈ ps,p<vs.length):iJ n (aM vs ps)=true:=by
 unfold iJ at hb ⊢;rw [List.all_eq_true] at hb ⊢;intro v hv;unfold aM at hv;obtain ⟨p,hp,rfl⟩:=mem_map.1 hv;have mM:=si p hp;refine hb _ ?_;rw [getD_eq_getElem?_getD,ec mM];exact getElem_mem mM
theorem hG{vars xs:List bQ}(h:∀ s ∈ xs,s ∈ vars):∀ p ∈ placesOf vars xs,p<vars.length:=fun p hp=>by
 unfold placesOf at hp;obtain ⟨s,hs,rfl⟩:=mem_map.1 hp;exact idxOf_lt_length_of_mem (h s hs)
structure zi (n:Nat) (D:bQ->Option (Nat×List Bool)) (r:aR):Prop where
 rel:∀ c ∈ r.body.l,c.kind=0->n ^ c.args.l.length<=4096/\∃ p,D c.name=some p/\p.2.length=n ^ c.args.l.length
 two:∀ c ∈ r.body.l,c.kind=1\/c.kind=2->c.args.l.length=2
 kinds:∀ c ∈ r.body.l,c.kind=0\/c.kind=1\/c.kind=2
 arity:∀ c ∈ r.body.l,c.args.l.length<=12
def aQ(r:aR)(c:dD):List Nat:=placesOf (varsOf r) c.args.l
def Bj(n:Nat)(look:bQ->Nat->Bool)(r:aR)(vs:List Int)(upto:Int):Bool:=r.body.l.all fun c=>!decide (iZ (aQ r c)=upto)||dy n look c (aM vs (aQ r c))
set_option maxHeartbeats 1000000 in
theorem MS{lo:Nat}{r:aR}{nv:Int}{hd:Sl Int}{cs:Sl (Sl Int)}{ls:Sl Int}(hf:r.kH)(uq:cs.l.map Sl.l=r.body.l.map (fun c=>iH (varsOf r) c.args.l))(Io:ls.l=r.body.l.map (fun c=>iZ (placesOf (varsOf r) c.args.l)))
  (hS:h.get S=some (.cells [.int .i64 (n:Int),.map B])) (hD:eT D h B lo) (Yt:S<h.next) (h0:h.get N0=some (.cells [.ptr S 0])) (h0n:N0<h.next) (h1:h.get N1=some (.cells (bu i0 r nv (an encI 1 hd) (an eu 1 cs) (an encI 1 ls)))) (h1n:N1<h.next)
  (h4:h.get N4=some (.cells [.slice V 0 vs.length 1])) (h4n:N4<h.next) (hV:h.get V=some (.cells (vs.map iv))) (Ls:V<h.next) (tI:vs.length=(varsOf r).length) (BH:iJ n vs=true) (n1:1<=n) (hk:zi n D r) {upto:Int}
  (hK:∀ h',bG h h'->K (.ret (.bool (Bj n (dA D) r vs upto))) h'=true):Sem TP 166 [.int .i64 upto,.ptr N1 0,.ptr N0 0,.ptr N4 0] h K:=by
 have pH:r.body.l.length<=cu:=by have:=hf.2.1;unfold cu;omega
 have BF:cs.l.length=r.body.l.length:=by have:=congrArg List.length uq;simpa using this
 have Sb:ls.l.length=r.body.l.length:=by rw [Io];simp
 refine F.uO ?_;rw [F.vS];simp only [bu] at h1;simp only [aS,reduceAdd,reduceEqDiff,reduceIte,ai h1]
 refine aG 0 r.body.l.length (zero_le _) (fun i e h'=>bG h h'/\e 0 = .int .i64 upto/\e 1 = .ptr N1 0/\e 2 = .ptr N0 0/\e 3 = .ptr N4 0/\e 10=an bR 4 r.body/\e 11 = .int .i64 (r.body.l.length:Int)/\e 12 = .int .i64 (i:Int) /\
  (r.body.l.take i).all (fun c=>!decide (iZ (aQ r c)=upto)||dy n (dA D) c (aM vs (aQ r c)))=true) ⟨bG.refl _,rfl,rfl,rfl,rfl,rfl,rfl,rfl,rfl⟩ ?_ ?_
 ·rintro i e h' _ hi ⟨x1,e0,e1,e2,e3,jH,jX,oX,ht⟩ K' hn hx hr hp;have hv:r.body.l[i]?=some r.body.l[i]:=ec hi;generalize r.body.l[i]=c at hv;have mu:=iA hv;obtain ⟨H2,qX,c1,co,cn⟩:=cR (h:=h') (zs:=[.int .i64 0,.bool false,.str [],.au]) (cs:=bR c) (n:=4) rfl rfl (gQ c);have x2:bG h H2:=x1.trans ⟨by omega,fun b hb=>co b (by omega)⟩;have q1:H2.get N1=some (.cells [.int .i64 i0,.str r.name,an encS 1 r.args,an bR 4 r.body,.int .i64 nv,an encI 1 hd,an eu 1 cs,an encI 1 ls]):=by rw [x2.get _ h1n];exact h1
  have q0:H2.get N0=some (.cells [.ptr S 0]):=by rw [x2.get _ h0n];exact h0
  have q4:H2.get N4=some (.cells [.slice V 0 vs.length 1]):=by rw [x2.get _ h4n];exact h4
  have qV:H2.get V=some (.cells (vs.map iv)):=by rw [x2.get _ Ls];exact hV
  have Bk:ls.l[i]?=some (iZ (aQ r c)):=by rw [Io,getElem?_map,hv];rfl
  have n1x:=x1.next
  rw [F.di.aT];simp only [e0,e1,e2,e3,jH,jX,oX,aS,reduceAdd,reduceEqDiff,reduceIte,bl hi,aU r.body hi,cX gh hv,qX];simp only [aS,reduceAdd,reduceEqDiff,reduceIte,ai q1,aU ls (show i<ls.l.length by omega),fS Bk,ct];by_cases hu:iZ (aQ r c)=upto
  ·have UT:i<cs.l.length:=by omega
   have jV:cs.l[i]?=some cs.l[i]:=ec UT
   have Bl:(cs.l[i]).l=(aQ r c).map fun (p:Nat)=>(p:Int):=by
    have h3:(cs.l.map Sl.l)[i]?=some (iH (varsOf r) c.args.l):=(by rw [uq,getElem?_map,hv];rfl);rw [getElem?_map,jV] at h3;exact Option.some.inj h3
   generalize cs.l[i]=xi at jV Bl;have mM:∀ p ∈ aQ r c,p<vs.length:=by rw [tI];exact hG (jm mu)
   have nM:(aQ r c).length=c.args.l.length:=by unfold aQ placesOf;simp
   simp only [ey hu,aF,aS,reduceAdd,reduceEqDiff,reduceIte,ai q0,ai q4,ai q1,ai c1,bR,EL,aU cs UT,ke jV];refine aj (Bh (ps:=aQ r c) qV (by have:=x2.next;omega) rfl Bl mM (by rw [nM];have:=hk.arity c mu;omega) fun h3 t1 x3 t2=>?_);have c3:h3.get h'.next=some (.cells (bR c)):=by rw [x3.get _ (by omega)];exact c1
   have q03:h3.get N0=some (.cells [.ptr S 0]):=by rw [x3.get _ (by have:=x2.next;omega)];exact q0
   have QF:=x2.trans x3;simp only [aS,reduceAdd,reduceEqDiff,reduceIte,ai c3,ai q03,bR,EL,AV.beq_refl,Bool.and_self,Bool.and_true,if_true];have rU:=fM vs (aQ r c);have hS3:h3.get S=some (.cells [.int .i64 (n:Int),.map B]):=by rw [QF.get _ Yt];exact hS
   rw [<- rU];refine aj (Dm (D:=D) (lo:=lo) hS3 (hD.ext QF) n1 t1 t2 (by have:=QF.next;omega) (by rw [rU,nM];exact hk.arity c mu) (iD BH mM) (fun k0=>by rw [rU,nM];exact hk.rel c mu k0) (fun Bn=>by rw [rU,nM];exact hk.two c mu Bn) (hk.kinds c mu) fun h5 x5=>?_);simp only [aS,reduceAdd,reduceEqDiff,reduceIte]
   cases AI:dy n (dA D) c (aM vs (aQ r c)) with
   |false=>
    simp only [Bool.not_false,aF];rw [hr,F.di.bt];have:Bj n (dA D) r vs upto=false:=all_false hv (by rw [ey hu,AI];rfl);rw [this] at hK;exact hK h5 (QF.trans x5)
   |true=>
    simp only [Bool.not_true,aE,oX,aK hi pH,aq];exact hn _ _ ⟨QF.trans x5,e0,e1,e2,e3,jH,jX,rfl,kj hv ht (by rw [AI,Bool.or_true])⟩
  ·simp only [ep hu,aE,oX,aK hi pH,aq];exact hn _ _ ⟨x2,e0,e1,e2,e3,jH,jX,rfl,kj hv ht (by rw [ep hu];rfl)⟩
 ·rintro e h' ⟨x1,e0,e1,e2,e3,jH,jX,oX,ht⟩ K' hx;rw [kB (dK _)] at ht;rw [F.di.aT];simp only [jX,oX,aS,reduceAdd,reduceEqDiff,reduceIte,aX];rw [hx,F.di.aJ];have:Bj n (dA D) r vs upto=true:=ht;rw [this] at hK;exact hK h' x1
structure UU (σ:Type) (Ip:σ->ag->Prop) (qO:σ->bQ->Option (Nat×List Bool)) (ku:List Int->σ->σ) (S B n lo base k:Nat) (r:aR) (g:FuncId) (ga gb:List AV) (V0:Nat):Prop where
 n1:1<=n
 ov:n<=64
 sb:S<base
 st:∀ s h,Ip s h->h.get S=some (.cells [.int .i64 (n:Int),.map B])/\eT (qO s) h B lo/\zi n (qO s) r
 eW:∀ s h h',Ip s h->base<=h.next->(∀ b,b<h.next->b≠V0->h'.get b=h.get b)->h.next<=h'.next->Ip s h'
 run:∀ s h vs K,Ip s h->base<=V0->V0<h.next->h.get V0=some (.cells (vs.map iv))->vs.length=k->iJ n vs=true ->
  (∀ h',Ip (ku vs s) h'->(∀ b,base<=b->b<h.next->h'.get b=h.get b)->h.next<=h'.next->K (.ret (.bool true)) h'=true)->Sem TP g (ga++([.slice V0 0 vs.length 1]++gb)) h K
def g8{σ:Type}(qO:σ->bQ->Option (Nat×List Bool))(n:Nat)(r:aR)(v:Nat)(go:List Int->σ->List Int×σ)(acc:List Int×σ)(x:Nat):List Int×σ:=
 if Bj n (dA (qO acc.2)) r (acc.1.set v (x:Int)) (v:Int)=true then go (acc.1.set v (x:Int)) acc.2 else (acc.1.set v (x:Int),acc.2)
def eV{σ:Type}(qO:σ->bQ->Option (Nat×List Bool))(ku:List Int->σ->σ)(n:Nat)(r:aR):Nat->Nat->List Int->σ->List Int×σ
 |0,_,vs,s=>(vs,ku vs s)
 |m+1,v,vs,s=>(List.range n).foldl (g8 qO n r v (eV qO ku n r m (v+1))) (vs,s)
theorem oy(h:iJ n vs=true)(v:Nat){x:Nat}(hx:x<n):iJ n (vs.set v (x:Int))=true:=by
 unfold iJ at h ⊢;rw [List.all_eq_true] at h ⊢;intro y hy;rcases mem_or_eq_of_mem_set hy with hy|rfl
 ·exact h y hy
 ·simp;omega
theorem eE{α β:Type}{P:α->Prop}{f:α->β->α}:∀ {l:List β} {a:α},P a->(∀ a b,b ∈ l->P a->P (f a b))->P (l.foldl f a)
 |[],a,h,_=>h
 |b :: l,a,h,hf=>eE (l:=l) (hf a b mem_cons_self h) fun a c hc=>hf a c (mem_cons_of_mem _ hc)
theorem MT{σ:Type}{qO:σ->bQ->Option (Nat×List Bool)}{ku:List Int->σ->σ}{n:Nat}{r:aR}{k:Nat}:∀ (m v:Nat) (vs:List Int) (s:σ),vs.length=k->iJ n vs=true->(eV qO ku n r m v vs s).1.length=k/\iJ n (eV qO ku n r m v vs s).1=true
 |0,v,vs,s,h1,h2=>⟨h1,h2⟩
 |m+1,v,vs,s,h1,h2=>by
  refine eE (P:=fun (a:List Int×σ)=>a.1.length=k/\iJ n a.1=true) ⟨h1,h2⟩ fun a x hx ha=>?_;have OY:=mem_range.1 hx;have h3:(a.1.set v (x:Int)).length=k:=by rw [length_set];exact ha.1
  have h4:=oy ha.2 v OY;unfold g8;split
  ·exact MT m (v+1) _ _ h3 h4
  ·exact ⟨h3,h4⟩
structure Cells (S n k:Nat) (N0 N1 N2 N4 N5 N6 V base:Nat) (i0:Int) (r:aR) (hd:Sl Int) (cs:Sl (Sl Int)) (ls:Sl Int) (g:FuncId) (ga gb:List AV) (h:ag):Prop where
 h0:h.get N0=some (.cells [.ptr S 0])
 h1:h.get N1=some (.cells (bu i0 r k (an encI 1 hd) (an eu 1 cs) (an encI 1 ls)))
 h2:h.get N2=some (.cells [.func g ga gb])
 h4:h.get N4=some (.cells [.slice V 0 k 1])
 h5:h.get N5=some (.cells [.func 166 [] [.ptr N1 0,.ptr N0 0,.ptr N4 0]])
 h6:h.get N6=some (.cells [.func 167 [] [.ptr N1 0,.ptr N2 0,.ptr N4 0,.ptr N0 0,.ptr N5 0,.ptr N6 0]])
 lo:base<=N0/\base<=N1/\base<=N2/\base<=N4/\base<=N5/\base<=N6/\base<=V
 hi:N0<h.next/\N1<h.next/\N2<h.next/\N4<h.next/\N5<h.next/\N6<h.next/\V<h.next
 ne:N0≠V/\N1≠V/\N2≠V/\N4≠V/\N5≠V/\N6≠V
theorem Cells.eW{N2 N5 N6:Nat}{r:aR}{hd:Sl Int}{cs:Sl (Sl Int)}{ls:Sl Int}(c:Cells S n k N0 N1 N2 N4 N5 N6 V base i0 r hd cs ls g ga gb h)(hb:∀ b,base<=b->b<h.next->b≠V->h'.get b=h.get b)(hn:h.next<=h'.next) :
  Cells S n k N0 N1 N2 N4 N5 N6 V base i0 r hd cs ls g ga gb h':=by
 obtain ⟨h0,h1,h2,h4,h5,h6,⟨l0,l1,l2,l4,l5,l6,lv⟩,⟨i0',i1,i2,i4,i5,i6,iv'⟩,⟨n0,n1,n2,n4,n5,n6⟩⟩:=c
 exact ⟨by rw [hb _ l0 i0' n0];exact h0,by rw [hb _ l1 i1 n1];exact h1,by rw [hb _ l2 i2 n2];exact h2,by rw [hb _ l4 i4 n4];exact h4,by rw [hb _ l5 i5 n5];exact h5,by rw [hb _ l6 i6 n6];exact h6,
  ⟨l0,l1,l2,l4,l5,l6,lv⟩,⟨by omega,by omega,by omega,by omega,by omega,by omega,by omega⟩,⟨n0,n1,n2,n4,n5,n6⟩⟩
set_option maxHeartbeats 1000000 in
theorem Sc{Ip:σ->ag->Prop}{qO:σ->bQ->Option (Nat×List Bool)}{ku:List Int->σ->σ}{lo:Nat}{r:aR}(d:UU σ Ip qO ku S B n lo base k r g ga gb V)
  {N2 N5 N6:Nat} {hd:Sl Int} {cs:Sl (Sl Int)} {ls:Sl Int} (hf:r.kH) (hk:k=(varsOf r).length) (xq:k<=12) (uq:cs.l.map Sl.l=r.body.l.map (fun c=>iH (varsOf r) c.args.l)) (Io:ls.l=r.body.l.map (fun c=>iZ (placesOf (varsOf r) c.args.l))) :
  ∀ (m v:Nat),v+m=k->∀ (vs:List Int) (s:σ) (h:ag) (K:Out->ag->Bool),Ip s h->base<=h.next->Cells S n k N0 N1 N2 N4 N5 N6 V base i0 r hd cs ls g ga gb h->h.get V=some (.cells (vs.map iv))->vs.length=k->iJ n vs=true ->
   (∀ h',Ip (eV qO ku n r m v vs s).2 h'->h'.get V=some (.cells ((eV qO ku n r m v vs s).1.map iv))->(∀ b,base<=b->b<h.next->b≠V->h'.get b=h.get b)->h.next<=h'.next->K (.ret (.bool true)) h'=true) ->
   Sem TP 167 [.int .i64 (v:Int),.ptr N1 0,.ptr N2 0,.ptr N4 0,.ptr N0 0,.ptr N5 0,.ptr N6 0] h K:=by
 intro m
 induction m with
 |zero=>
  intro v hv vs s h K ha IJ hc hV tI BH hK;have h1:=hc.h1;simp only [bu] at h1;refine F.nZ ?_;rw [F.oL];simp only [aS,reduceAdd,reduceEqDiff,reduceIte,ai h1,ct,ey (by omega:(v:Int)=(k:Int)),aF,ai hc.h2,ai hc.h4,ju];rw [<- tI];refine aj (d.run s h vs _ ha hc.lo.2.2.2.2.2.2 hc.hi.2.2.2.2.2.2 hV tI BH fun h' a1 a2 a3=>?_);simp only [aS,reduceAdd,reduceEqDiff,reduceIte];exact hK h' a1 (by rw [a2 V hc.lo.2.2.2.2.2.2 hc.hi.2.2.2.2.2.2];exact hV) (fun b b1 b2 _=>a2 b b1 b2) a3
 |succ m ih=>
  intro v hv vs s h K ha IJ hc hV tI BH hK;have h1:=hc.h1;simp only [bu] at h1;have hS:=(d.st s h ha).1;have ov:=d.ov;refine F.nZ ?_;rw [F.oL];simp only [aS,reduceAdd,reduceEqDiff,reduceIte,ai h1,ct,ep (by omega:¬ (v:Int)=(k:Int)),aE,ai hc.h0,bD,ai hS]
  refine aG 0 n (zero_le _) (fun x e h'=>∃ acc:List Int×σ,acc=(List.range x).foldl (g8 qO n r v (eV qO ku n r m (v+1))) (vs,s)/\Ip acc.2 h'/\h'.get V=some (.cells (acc.1.map iv))/\acc.1.length=k/\iJ n acc.1=true /\
   (∀ b,base<=b->b<h.next->b≠V->h'.get b=h.get b)/\h.next<=h'.next/\e 0 = .int .i64 (v:Int)/\e 1 = .ptr N1 0/\e 2 = .ptr N2 0/\e 3 = .ptr N4 0/\e 4 = .ptr N0 0/\e 5 = .ptr N5 0/\e 6 = .ptr N6 0/\e 20 = .int .i64 (n:Int)/\e 21 = .int .i64 (x:Int))
   ⟨(vs,s),rfl,ha,hV,tI,BH,fun _ _ _ _=>rfl,dK _,rfl,rfl,rfl,rfl,rfl,rfl,rfl,rfl,rfl⟩ ?_ ?_
  ·rintro x e h' _ hx ⟨acc,UW,qa,qV,ql,qin,qf,qn,e0,e1,e2,e3,e4,e5,e6,Be,Ik⟩ K' hn iY hr hp
   have ej:(List.range (x+1)).foldl (g8 qO n r v (eV qO ku n r m (v+1))) (vs,s)=g8 qO n r v (eV qO ku n r m (v+1)) acc x:=by
    rw [range_succ,foldl_append,<- UW];rfl
   unfold g8 at ej;have AO:=hc.eW qf qn;have ic:=pR (v:=(x:Int)) qV (i:=v) (by omega);have hvk:v<k:=by omega
   rw [F.ee.aT];simp only [e0,e3,e5,Be,Ik,aS,reduceAdd,reduceEqDiff,reduceIte,bl hx,ai AO.h4,kF hvk,ic];have qn0:(h'.set V (.cells ((acc.1.set v (x:Int)).map iv))).next=h'.next:=ag.bq _ _ _
   have qg:∀ b,b≠V->(h'.set V (.cells ((acc.1.set v (x:Int)).map iv))).get b=h'.get b:=fun b hb=>by rw [ag.aP,if_neg hb]
   have qV2:(h'.set V (.cells ((acc.1.set v (x:Int)).map iv))).get V=some (.cells ((acc.1.set v (x:Int)).map iv)):=by rw [ag.aP,if_pos rfl]
   generalize (h'.set V (.cells ((acc.1.set v (x:Int)).map iv)))=H at qn0 qg qV2 ⊢;have cH:=AO.eW (h':=H) (fun b _ _ hb=>qg b hb) (by omega);have lV:=hc.lo.2.2.2.2.2.2;have aH:=d.eW _ _ H qa (by omega) (fun b _ hb=>qg b hb) (by omega);obtain ⟨sS,sD,sA⟩:=d.st _ _ aH;have RM:(acc.1.set v (x:Int)).length=k:=by rw [length_set];exact ql
   have UX:=oy qin v hx;generalize (acc.1.set v (x:Int))=vs2 at ej qV2 RM UX;have c4:=cH.h4;rw [<- RM] at c4;simp only [ai cH.h5,aS,reduceAdd,reduceEqDiff,reduceIte,ju,nil_append,cons_append];refine aj (MS (n:=n) (B:=B) (lo:=lo) (S:=S) hf uq Io sS sD (by have:=d.sb;omega) cH.h0 cH.hi.1 cH.h1 cH.hi.2.1 c4 cH.hi.2.2.2.1 qV2 cH.hi.2.2.2.2.2.2 (by omega) UX d.n1 sA fun h3 x3=>?_);have c3:=cH.eW (fun b _ hb _=>x3.get b hb) x3.next
   have a3:=d.eW _ _ h3 aH (by omega) (fun b hb _=>x3.get b hb) x3.next
   have v3:h3.get V=some (.cells (vs2.map iv)):=by rw [x3.get V cH.hi.2.2.2.2.2.2];exact qV2
   have n3:=x3.next
   have f3:∀ b,base<=b->b<h.next->b≠V->h3.get b=h.get b:=fun b b1 b2 b3=>by rw [x3.get b (by omega),qg b b3,qf b b1 b2 b3]
   simp only [aS,reduceAdd,reduceEqDiff,reduceIte]
   cases iQ:Bj n (dA (qO acc.2)) r vs2 (v:Int) with
   |false=>
    rw [iQ,if_neg (by simp)] at ej;simp only [aE,Ik,aK hx (show n<=cu by unfold cu;omega),aq];exact hn _ _ ⟨_,ej.symm,a3,v3,RM,UX,f3,by omega,e0,e1,e2,e3,e4,e5,e6,Be,rfl⟩
   |true=>
    rw [iQ,if_pos rfl] at ej;have RK:=aK (i:=v) (n:=13) (by omega) (by unfold cu;omega);simp only [aF,e0,e6,ai c3.h6,aS,reduceAdd,reduceEqDiff,reduceIte,RK,ju,nil_append,cons_append];refine aj (ih (v+1) (by omega) vs2 acc.2 h3 _ a3 (by omega) c3 v3 RM UX fun h4 a4 v4 f4 n4=>?_);obtain ⟨w1,w2⟩:=MT (qO:=qO) (ku:=ku) (r:=r) (k:=k) m (v+1) vs2 acc.2 RM UX;simp only [aS,reduceAdd,reduceEqDiff,reduceIte,Bool.not_true,aE,Ik,aK hx (show n<=cu by unfold cu;omega)];exact hn _ _ ⟨_,ej.symm,a4,v4,w1,w2,fun b b1 b2 b3=>by rw [f4 b b1 (by omega) b3,f3 b b1 b2 b3],by omega,e0,e1,e2,e3,e4,e5,e6,Be,rfl⟩
  ·rintro e h' ⟨acc,UW,qa,qV,ql,qin,qf,qn,e0,e1,e2,e3,e4,e5,e6,Be,Ik⟩ K' iY;rw [F.ee.aT];simp only [Be,Ik,aS,reduceAdd,reduceEqDiff,reduceIte,aX];rw [iY,F.ee.aJ];have:eV qO ku n r (m+1) v vs s=acc:=UW.symm;rw [this] at hK;exact hK h' qa qV qf qn
def mB{σ:Type}(qO:σ->bQ->Option (Nat×List Bool))(ku:List Int->σ->σ)(n:Nat)(r:aR)(k:Nat)(s:σ):σ:=
 if Bj n (dA (qO s)) r (replicate k 0) (-1)=true then (eV qO ku n r k 0 (replicate k 0) s).2 else s
theorem Jf(i:Int)(r:aR)(n:Int)(hd:Sl Int)(cs:Sl (Sl Int))(ls:Sl Int):bE (bu i r n (an encI 1 hd) (an eu 1 cs) (an encI 1 ls))=true:=by
 unfold bu;simp only [bE,mj,Bool.and_true];rfl
theorem yw(h:1<=n)(k:Nat):iJ n (replicate k (0:Int))=true:=by
 unfold iJ;rw [List.all_eq_true];intro x hx;rw [(mem_replicate.1 hx).2];simp;omega
set_option maxHeartbeats 1000000 in
theorem Dp{Ip:Nat->σ->ag->Prop}{qO:σ->bQ->Option (Nat×List Bool)}{ku:List Int->σ->σ}{lo:Nat}{r:aR}(d:∀ V,h.next<=V->UU σ (Ip V) qO ku S B n lo base k r g ga gb V)
  {hd:Sl Int} {cs:Sl (Sl Int)} {ls:Sl Int} (hf:r.kH) (hk:k=(varsOf r).length) (xq:k<=12) (uq:cs.l.map Sl.l=r.body.l.map (fun c=>iH (varsOf r) c.args.l)) (Io:ls.l=r.body.l.map (fun c=>iZ (placesOf (varsOf r) c.args.l)))
  {s:σ} (ha:∀ V,h.next<=V->Ip V s h) (IJ:base<=h.next)
  (hK:∀ h' V,h.next<=V->Ip V (mB qO ku n r k s) h'->(∀ b,base<=b->b<h.next->h'.get b=h.get b)->h.next<=h'.next->K (.ret (.tuple [])) h'=true) :
  Sem TP 122 [.ptr S 0,.agg (bu i0 r k (an encI 1 hd) (an eu 1 cs) (an encI 1 ls)),.func g ga gb] h K:=by
 refine F.wV ?_;rw [F.yQ];simp only [uJ (x:=.ptr S 0) rfl,cG (Jf i0 r k hd cs ls),uJ (x:=.func g ga gb) rfl,aq,ag.aV]
 have g0:(((h.alloc (.cells [.ptr S 0])).alloc (.cells (bu i0 r k (an encI 1 hd) (an eu 1 cs) (an encI 1 ls)))).alloc (.cells [.func g ga gb])).get h.next=some (.cells [.ptr S 0]):=by
  rw [ag.aW,ag.aV,ag.aV,if_neg (by omega),ag.aW,ag.aV,if_neg (by omega)];exact aD _ _
 have g1:(((h.alloc (.cells [.ptr S 0])).alloc (.cells (bu i0 r k (an encI 1 hd) (an eu 1 cs) (an encI 1 ls)))).alloc (.cells [.func g ga gb])).get (h.next+1)=some (.cells (bu i0 r k (an encI 1 hd) (an eu 1 cs) (an encI 1 ls))):=by
  rw [ag.aW,ag.aV,ag.aV,if_neg (by omega)];exact aD _ _
 have g2:(((h.alloc (.cells [.ptr S 0])).alloc (.cells (bu i0 r k (an encI 1 hd) (an eu 1 cs) (an encI 1 ls)))).alloc (.cells [.func g ga gb])).get (h.next+1+1)=some (.cells [.func g ga gb]):=aD _ _;have gx:bG h (((h.alloc (.cells [.ptr S 0])).alloc (.cells (bu i0 r k (an encI 1 hd) (an eu 1 cs) (an encI 1 ls)))).alloc (.cells [.func g ga gb])):=((bG.alloc _ _).trans (bG.alloc _ _)).trans (bG.alloc _ _);have gn:(((h.alloc (.cells [.ptr S 0])).alloc (.cells (bu i0 r k (an encI 1 hd) (an eu 1 cs) (an encI 1 ls)))).alloc (.cells [.func g ga gb])).next=h.next+3:=rfl
 generalize (((h.alloc (.cells [.ptr S 0])).alloc (.cells (bu i0 r k (an encI 1 hd) (an eu 1 cs) (an encI 1 ls)))).alloc (.cells [.func g ga gb]))=H3 at g0 g1 g2 gx gn ⊢;have g1':=g1;simp only [bu] at g1';simp only [aS,reduceAdd,reduceEqDiff,reduceIte,ai g1',uV (show k<=1000000 by omega)];have v6:=aD H3 (.cells ((replicate k (0:Int)).map iv));have x6:=bG.alloc H3 (.cells ((replicate k (0:Int)).map iv));have n6:(H3.alloc (.cells ((replicate k (0:Int)).map iv))).next=H3.next+1:=ag.aV _ _
 generalize (H3.alloc (.cells ((replicate k (0:Int)).map iv)))=H6 at v6 x6 n6 ⊢;obtain ⟨h7,s7,a7,o7,n7⟩:=nt (h:=H6) (z:=.au) (v:=.slice H3.next 0 k 1) rfl rfl;obtain ⟨h8,s8,a8,o8,n8⟩:=nt (h:=h7) (z:=.qh) (v:=.func 166 [] [.ptr (h.next+1) 0,.ptr h.next 0,.ptr H6.next 0]) rfl rfl;obtain ⟨h9,s9,a9,o9,n9⟩:=nt (h:=h8) (z:=.qh) (v:=.func 167 [] [.ptr (h.next+1) 0,.ptr (h.next+1+1) 0,.ptr H6.next 0,.ptr h.next 0,.ptr h7.next 0,.ptr h8.next 0]) rfl rfl;simp only [s7,s8,s9,aq];have low:∀ b,b<H6.next->h9.get b=H6.get b:=fun b hb=>by rw [o9 b (by omega),o8 b (by omega),o7 b (by omega)]
 have c:Cells S n k h.next (h.next+1) (h.next+1+1) H6.next h7.next h8.next H3.next base i0 r hd cs ls g ga gb h9:=
  ⟨by rw [low _ (by omega),x6.get _ (by omega)];exact g0,by rw [low _ (by omega),x6.get _ (by omega)];exact g1,by rw [low _ (by omega),x6.get _ (by omega)];exact g2,
   by rw [o9 _ (by omega),o8 _ (by omega)];exact a7,by rw [o9 _ (by omega)];exact a8,a9,
   ⟨by omega,by omega,by omega,by omega,by omega,by omega,by omega⟩,⟨by omega,by omega,by omega,by omega,by omega,by omega,by omega⟩,⟨by omega,by omega,by omega,by omega,by omega,by omega⟩⟩
 have x9:bG h h9:=⟨by omega,fun b hb=>by rw [low b (by omega),x6.get b (by omega),gx.get b hb]⟩
 have v9:h9.get H3.next=some (.cells ((replicate k (0:Int)).map iv)):=by rw [low _ (by omega)];exact v6
 have hV3:h.next<=H3.next:=gx.next
 replace d:=d H3.next hV3
 replace ha:=ha H3.next hV3
 have a9':=d.eW _ _ h9 ha IJ (fun b hb _=>x9.get b hb) x9.next
 have hl0:(replicate k (0:Int)).length=k:=length_replicate;have aa6:=yw d.n1 k;obtain ⟨sS,sD,sA⟩:=d.st _ _ a9';have c4:=c.h4;rw [<- hl0] at c4;generalize BH:replicate k (0:Int)=vs0 at v9 hl0 aa6 c4;have heF:mB qO ku n r k s=if Bj n (dA (qO s)) r vs0 (-1)=true then (eV qO ku n r k 0 vs0 s).2 else s:=by unfold mB;rw [BH]
 simp only [aS,reduceAdd,reduceEqDiff,reduceIte,ai c.h5,ju,nil_append,cons_append];refine aj (MS (n:=n) (B:=B) (lo:=lo) (S:=S) hf uq Io sS sD (by have:=d.sb;have:=x9.next;omega) c.h0 c.hi.1 c.h1 c.hi.2.1 c4 c.hi.2.2.2.1 v9 c.hi.2.2.2.2.2.2 (by omega) aa6 d.n1 sA fun Zu Yu=>?_);have n10:=Yu.next
 have c10:=c.eW (fun b _ hb _=>Yu.get b hb) n10;have Wg:=d.eW _ _ Zu a9' (by have:=x9.next;omega) (fun b hb _=>Yu.get b hb) n10;have v10:Zu.get H3.next=some (.cells (vs0.map iv)):=by rw [Yu.get _ c.hi.2.2.2.2.2.2];exact v9
 simp only [aS,reduceAdd,reduceEqDiff,reduceIte]
 cases iQ:Bj n (dA (qO s)) r vs0 (-1) with
 |false=>
  rw [iQ,if_neg (by simp)] at heF;rw [heF] at hK;simp only [aE];exact hK Zu _ hV3 Wg (fun b _ b2=>(x9.trans Yu).get b b2) (x9.trans Yu).next
 |true=>
  rw [iQ,if_pos rfl] at heF;rw [heF] at hK;simp only [aF,aS,reduceAdd,reduceEqDiff,reduceIte,ai c10.h6,ju,nil_append,cons_append];refine aj (Sc d hf hk xq uq Io k 0 (by omega) vs0 s Zu _ Wg (by have:=x9.next;omega) c10 v10 hl0 aa6 fun h11 W6 v11 f11 n11=>?_);simp only [aS,reduceAdd,reduceEqDiff,reduceIte];exact hK h11 _ hV3 W6 (fun b b1 b2=>by rw [f11 b b1 (by have:=x9.next;omega) (by omega),(x9.trans Yu).get b b2]) (by have:=x9.next;omega)
theorem OZ{Ip:σ->ag->Prop}{qO:σ->bQ->Option (Nat×List Bool)}{ku:List Int->σ->σ}{lo:Nat}{r:aR}(d:∀ V,base<=V->UU σ Ip qO ku S B n lo base k r g ga gb V)
  {hd:Sl Int} {cs:Sl (Sl Int)} {ls:Sl Int} (hf:r.kH) (hk:k=(varsOf r).length) (xq:k<=12) (uq:cs.l.map Sl.l=r.body.l.map (fun c=>iH (varsOf r) c.args.l)) (Io:ls.l=r.body.l.map (fun c=>iZ (placesOf (varsOf r) c.args.l)))
  {s:σ} (ha:Ip s h) (IJ:base<=h.next)
  (hK:∀ h',Ip (mB qO ku n r k s) h'->(∀ b,base<=b->b<h.next->h'.get b=h.get b)->h.next<=h'.next->K (.ret (.tuple [])) h'=true) :
  Sem TP 122 [.ptr S 0,.agg (bu i0 r k (an encI 1 hd) (an eu 1 cs) (an encI 1 ls)),.func g ga gb] h K:=
 Dp (Ip:=fun _=>Ip) (fun V hV=>d V (by omega)) hf hk xq uq Io (fun _ _=>ha) IJ fun h' _ _=>hK h'
abbrev DB:=bQ->Option (Nat×List Bool)
def fF(D D0:DB):Prop:=∀ nm,(D nm).map (fun p=>(p.1,p.2.length))=(D0 nm).map (fun p=>(p.1,p.2.length))
theorem fF.get{D D0:DB}(h:fF D D0){p0:Nat×List Bool}(h0:D0 nm=some p0):∃ p,D nm=some p/\p.1=p0.1/\p.2.length=p0.2.length:=by
 have:=h nm;rw [h0] at this
 cases hd:D nm with
 |none=>rw [hd] at this;cases this
 |some p=>
  rw [hd] at this;simp only [map_some,Option.some.injEq,Prod.mk.injEq] at this;exact ⟨p,rfl,this.1,this.2⟩
theorem fF.back{D D0:DB}(h:fF D D0)(hp:D nm=some p):∃ p0,D0 nm=some p0/\p.1=p0.1/\p.2.length=p0.2.length:=by
 have:=h nm;rw [hp] at this
 cases hd:D0 nm with
 |none=>rw [hd] at this;cases this
 |some p0=>
  rw [hd] at this;simp only [map_some,Option.some.injEq,Prod.mk.injEq] at this;exact ⟨p0,rfl,this.1,this.2⟩
theorem fF.set{D D0:DB}(h:fF D D0)(hp:D nm=some p)(hd:d.length=p.2.length):fF (mU D nm p.1 d) D0:=fun j=>by
 rw [<- h j];unfold mU;by_cases e:j=nm
 ·rw [if_pos e,e,hp,map_some,map_some,hd]
 ·rw [if_neg e]
def wm(n:Nat)(r:aR)(vs:List Int)(s:DB×Bool):DB×Bool:=
 match s.1 r.name with
 |none=>s
 |some p=>if p.2.getD (iy n (aM vs (placesOf (varsOf r) r.args.l))) false=true then s else (mU s.1 r.name p.1 (p.2.set (iy n (aM vs (placesOf (varsOf r) r.args.l))) true),true)
structure rV (S B n lo base P3 P5 P6 PL:Nat) (D0:DB) (r:aR) (i0:Int) (k:Nat) (hd:Sl Int) (cs:Sl (Sl Int)) (ls:Sl Int) (ng:FuncId) (na nb:List AV) (h0:ag) (s:DB×Bool) (h:ag):Prop where
 hS:h.get S=some (.cells [.int .i64 (n:Int),.map B])
 hD:eT s.1 h B lo
 Sd:fF s.1 D0
 h3:h.get P3=some (.cells [.ptr S 0])
 h5:h.get P5=some (.cells [.func ng na nb])
 h6:h.get P6=some (.cells [.bool s.2])
 hL:h.get PL=some (.cells (bu i0 r k (an encI 1 hd) (an eu 1 cs) (an encI 1 ls)))
 lt:base<=h.next
 old:∀ b,b<base->b≠P6->(∀ nm p,D0 nm=some p->b≠p.1)->h.get b=h0.get b
structure QN (S B n lo base P3 P5 P6 PL:Nat) (D0:DB) (r:aR) (k:Nat) (hd:Sl Int) (ng:FuncId) (na nb:List AV):Prop where
 n1:1<=n
 ov:n<=64
 low:S<base/\B<base/\P3<base/\P5<base/\P6<base/\PL<base
 rows:∀ nm p,D0 nm=some p->p.1<base/\p.1≠S/\p.1≠P3/\p.1≠P5/\p.1≠P6/\p.1≠PL
 six:P6≠S/\P6≠B/\P6≠P3/\P6≠P5/\P6≠PL
 ask:∀ D,fF D D0->zi n D r
 head:n ^ r.args.l.length<=4096/\r.args.l.length<=12/\∃ p,D0 r.name=some p/\p.2.length=n ^ r.args.l.length
 wE:k=(varsOf r).length
 ZP:hd.l=iH (varsOf r) r.args.l
 note:∀ (i:Int) (r:aR) (k:Int) (hd:Sl Int) (cs:Sl (Sl Int)) (ls:Sl Int) (y:AV) (h:ag) (K:Out->ag->Bool),(∀ h',bG h h'->K (.ret (.tuple [])) h'=true)->Sem TP ng (na++([.agg (bu i r k (an encI 1 hd) (an eu 1 cs) (an encI 1 ls)),y]++nb)) h K
theorem rV.eW{lo:Nat}{D0:DB}{r:aR}{hd:Sl Int}{cs:Sl (Sl Int)}{ls:Sl Int}{h0:ag}(o:QN S B n lo base P3 P5 P6 PL D0 r k hd ng na nb){s:DB×Bool}
  (a:rV S B n lo base P3 P5 P6 PL D0 r i0 k hd cs ls ng na nb h0 s h) (hb:∀ b,b<base->h'.get b=h.get b) (hn:h.next<=h'.next):rV S B n lo base P3 P5 P6 PL D0 r i0 k hd cs ls ng na nb h0 s h':=by
 obtain ⟨l1,l2,l3,l4,l5,l6⟩:=o.low;refine ⟨by rw [hb _ l1];exact a.hS,?_,a.Sd,by rw [hb _ l3];exact a.h3,by rw [hb _ l4];exact a.h5,by rw [hb _ l5];exact a.h6,by rw [hb _ l6];exact a.hL,Nat.le_trans a.lt hn,fun b b1 b2 b3=>by rw [hb b b1];exact a.old b b1 b2 b3⟩;obtain ⟨es,ck,m,e1,e2,e3⟩:=a.hD.ex;refine ⟨⟨es,ck,m,by rw [hb _ l2];exact e1,e2,e3⟩,fun nm p hp=>?_,a.hD.inj,Nat.lt_of_lt_of_le a.hD.lt hn⟩;obtain ⟨q1,q2,q3,q4⟩:=a.hD.mc nm p hp;obtain ⟨p0,r1,r2,_⟩:=a.Sd.back hp;have:=(o.rows nm p0 r1).1;exact ⟨q1,Nat.lt_of_lt_of_le q2 hn,q3,by rw [hb _ (by omega)];exact q4⟩
set_option maxHeartbeats 1000000 in
theorem UY{lo:Nat}{D0:DB}{r:aR}{hd:Sl Int}{cs:Sl (Sl Int)}{ls:Sl Int}{h0:ag}(o:QN S B n lo base P3 P5 P6 PL D0 r k hd ng na nb){s:DB×Bool}
  (a:rV S B n lo base P3 P5 P6 PL D0 r i0 k hd cs ls ng na nb h0 s h) (hVb:base<=V) (Ls:V<h.next) (hV:h.get V=some (.cells (vs.map iv))) (tI:vs.length=k) (BH:iJ n vs=true)
  (hK:∀ h',rV S B n lo base P3 P5 P6 PL D0 r i0 k hd cs ls ng na nb h0 (wm n r vs s) h'->(∀ b,base<=b->b<h.next->h'.get b=h.get b)->h.next<=h'.next->K (.ret (.bool true)) h'=true) :
  Sem TP 158 ([]++([.slice V 0 vs.length 1]++[.ptr PL 0,.ptr P3 0,.ptr P6 0,.ptr P5 0])) h K:=by
 obtain ⟨l1,l2,l3,l4,l5,l6⟩:=o.low;obtain ⟨vZ,Cp,p0,Ht,apC⟩:=o.head;have hL:=a.hL;simp only [bu] at hL;simp only [nil_append,cons_append];refine F.tS ?_;rw [F.uQ];simp only [aS,reduceAdd,reduceEqDiff,reduceIte,ai hL];have mM:∀ p ∈ placesOf (varsOf r) r.args.l,p<vs.length:=by rw [tI,o.wE];exact hG jl
 have nM:(placesOf (varsOf r) r.args.l).length=r.args.l.length:=by unfold placesOf;simp
 refine aj (Bh (ps:=placesOf (varsOf r) r.args.l) hV Ls rfl o.ZP mM (by rw [nM];omega) fun h3 t1 x3 t2=>?_);have lt0:=a.lt;have a3:=rV.eW o a (fun b hb=>x3.get b (by omega)) x3.next
 obtain ⟨p,hp,ZM,ajK⟩:=a3.Sd.get Ht;have hL3:=a3.hL;simp only [bu] at hL3;have rU:=fM vs (placesOf (varsOf r) r.args.l);have mN:=iD BH mM;rw [<- rU];have OJ:wm n r vs s=if p.2.getD (iy n (aM vs (placesOf (varsOf r) r.args.l))) false=true then s else (mU s.1 r.name p.1 (p.2.set (iy n (aM vs (placesOf (varsOf r) r.args.l))) true),true):=by unfold wm;rw [hp]
 have sj:iy n (aM vs (placesOf (varsOf r) r.args.l))<p.2.length:=by
  have:=lX mN;rw [rU,nM] at this;omega
 have oI:p.2[iy n (aM vs (placesOf (varsOf r) r.args.l))]?=some (p.2.getD (iy n (aM vs (placesOf (varsOf r) r.args.l))) false):=by rw [getD_eq_getElem?_getD,ec sj];rfl
 obtain ⟨b1,b2,b3,b4⟩:=a3.hD.mc r.name p hp;have UZ:∀ {K:Out->ag->Bool},K (.ret (.int .i64 ((iy n (aM vs (placesOf (varsOf r) r.args.l)):Nat):Int))) h3=true->Sem TP 69 [.ptr S 0,.slice h.next 0 (aM vs (placesOf (varsOf r) r.args.l)).length 1] h3 K:=fun hk=>Dl a3.hS o.n1 t1 (by rw [rU,nM];exact Cp) (by rw [rU,nM];exact vZ) mN hk;generalize iy n (aM vs (placesOf (varsOf r) r.args.l))=rk at OJ sj oI UZ;simp only [aS,reduceAdd,reduceEqDiff,reduceIte,ai a3.h3,bD,ai a3.hS,ai hL3,a3.hD.look hp];refine aj (UZ ?_);simp only [aS,reduceAdd,reduceEqDiff,reduceIte,kF sj,Bg b4 oI]
 cases hbv:p.2.getD rk false with
 |true=>
  rw [hbv,if_pos rfl] at OJ;simp only [Bool.not_true,aE];rw [OJ] at hK;exact hK h3 a3 (fun b _ b2=>x3.get b b2) x3.next
 |false=>
  rw [hbv,if_neg (by simp)] at OJ;simp only [Bool.not_false,aF,ai a3.h3,aS,reduceAdd,reduceEqDiff,reduceIte];refine aj (UZ ?_);obtain ⟨w1,w2,w3,w4,w5,w6⟩:=o.rows r.name p0 Ht;rw [<- ZM] at w1 w2 w3 w4 w5 w6;obtain ⟨y1,y2,y3,y4,y5⟩:=o.six;have nT:=a3.hD.set hp (d:=p.2.set rk true) (by simp);have st1:=xo (v:=true) b4 sj;have g6:(h3.set p.1 (.cells ((p.2.set rk true).map bv))).get P6=some (.cells [.bool s.2]):=by rw [ag.aP,if_neg (Ne.symm w5)];exact a3.h6
  have US:bh 1 (.ptr P6 0) (.bool true) (h3.set p.1 (.cells ((p.2.set rk true).map bv)))=some ((h3.set p.1 (.cells ((p.2.set rk true).map bv))).set P6 (.cells [.bool true])):=by
   rw [cJ (n:=1) g6 rfl rfl (by simp)];rfl
  have q:∀ b,b≠p.1->b≠P6->((h3.set p.1 (.cells ((p.2.set rk true).map bv))).set P6 (.cells [.bool true])).get b=h3.get b:=fun b To IK=>by rw [ag.aP,if_neg IK,ag.aP,if_neg To]
  have q6:((h3.set p.1 (.cells ((p.2.set rk true).map bv))).set P6 (.cells [.bool true])).get P6=some (.cells [.bool true]):=by rw [ag.aP,if_pos rfl]
  have qn:((h3.set p.1 (.cells ((p.2.set rk true).map bv))).set P6 (.cells [.bool true])).next=h3.next:=by rw [ag.bq,ag.bq]
  have hD':eT (mU s.1 r.name p.1 (p.2.set rk true)) ((h3.set p.1 (.cells ((p.2.set rk true).map bv))).set P6 (.cells [.bool true])) B lo:=by
   obtain ⟨es,ck,m,e1,e2,e3⟩:=nT.ex;refine ⟨⟨es,ck,m,by rw [ag.aP,if_neg (Ne.symm y2)];exact e1,e2,e3⟩,fun nm p' vK=>?_,nT.inj,by rw [ag.bq];exact nT.lt⟩;obtain ⟨c1,c2,c3,c4⟩:=nT.mc nm p' vK;obtain ⟨p0',d1,d2,_⟩:=(a3.Sd.set hp (d:=p.2.set rk true) (by simp)).back vK;have:=(o.rows nm p0' d1).2.2.2.2.1;exact ⟨c1,by rw [ag.bq];exact c2,c3,by rw [ag.aP,if_neg (by rw [d2];exact this)];exact c4⟩
  simp only [aS,reduceAdd,reduceEqDiff,reduceIte,kF sj,st1,US];generalize ((h3.set p.1 (.cells ((p.2.set rk true).map bv))).set P6 (.cells [.bool true]))=H at q q6 qn hD' ⊢
  have aH:rV S B n lo base P3 P5 P6 PL D0 r i0 k hd cs ls ng na nb h0 (wm n r vs s) H:=by
   rw [OJ];exact ⟨by rw [q S (Ne.symm w2) (Ne.symm y1)];exact a3.hS,hD',a3.Sd.set hp (by simp),by rw [q P3 (Ne.symm w3) (Ne.symm y3)];exact a3.h3,by rw [q P5 (Ne.symm w4) (Ne.symm y4)];exact a3.h5,q6,by rw [q PL (Ne.symm w6) (Ne.symm y5)];exact a3.hL,by rw [qn];exact a3.lt,fun b b1 b2 b3=>by rw [q b (by rw [ZM];exact b3 _ _ Ht) b2];exact a3.old b b1 b2 b3⟩
  have hLH:=aH.hL;simp only [bu] at hLH;simp only [ai aH.h5,ai hLH,QM,aS,reduceAdd,reduceEqDiff,reduceIte,ju];refine aj (o.note i0 r k hd cs ls _ H _ fun h9 x9=>?_);simp only [aS,reduceAdd,reduceEqDiff,reduceIte];have ltH:=aH.lt;have n9:=x9.next
  exact hK h9 (rV.eW o aH (fun b hb=>x9.get b (by omega)) n9) (fun b b1 b2=>by have:=x3.next;rw [x9.get b (by omega),q b (by omega) (by omega),x3.get b b2]) (by have:=x3.next;omega)
theorem O0{lo:Nat}{D0:DB}{r:aR}{hd:Sl Int}{cs:Sl (Sl Int)}{ls:Sl Int}{h0:ag}(o:QN S B n lo base P3 P5 P6 PL D0 r k hd ng na nb)(V0:Nat)(hV0:base<=V0) :
  UU (DB×Bool) (rV S B n lo base P3 P5 P6 PL D0 r i0 k hd cs ls ng na nb h0) (fun s=>s.1) (wm n r) S B n lo base k r 158 [] [.ptr PL 0,.ptr P3 0,.ptr P6 0,.ptr P5 0] V0:=
 ⟨o.n1,o.ov,o.low.1,fun s h a=>⟨a.hS,a.hD,o.ask _ a.Sd⟩,fun s h h' a IJ hb hn=>rV.eW o a (fun b fY=>hb b (by omega) (by omega)) hn,fun s h vs K a h1 h2 h3 h4 h5 hK=>UY o a h1 h2 h3 h4 h5 hK⟩
theorem GB{σ:Type}{qO:σ->DB}{ku:List Int->σ->σ}{n:Nat}{r:aR}{k:Nat}{Q:σ->Prop}(hQ:∀ vs s,vs.length=k->iJ n vs=true->Q s->Q (ku vs s)):∀ (m v:Nat) (vs:List Int) (s:σ),vs.length=k->iJ n vs=true->Q s ->
  ((eV qO ku n r m v vs s).1.length=k/\iJ n (eV qO ku n r m v vs s).1=true)/\Q (eV qO ku n r m v vs s).2
 |0,v,vs,s,h1,h2,h3=>⟨⟨h1,h2⟩,hQ vs s h1 h2 h3⟩
 |m+1,v,vs,s,h1,h2,h3=>by
  refine eE (P:=fun (a:List Int×σ)=>(a.1.length=k/\iJ n a.1=true)/\Q a.2) ⟨⟨h1,h2⟩,h3⟩ fun a x hx ha=>?_;have OY:=mem_range.1 hx;have h3:(a.1.set v (x:Int)).length=k:=by rw [length_set];exact ha.1.1
  have h4:=oy ha.1.2 v OY;unfold g8;split
  ·exact GB hQ m (v+1) _ _ h3 h4 ha.2
  ·exact ⟨⟨h3,h4⟩,ha.2⟩
theorem uZ{qO:σ->DB}{ku:List Int->σ->σ}{r:aR}{Q:σ->Prop}(n1:1<=n)(hQ:∀ vs s,vs.length=k->iJ n vs=true->Q s->Q (ku vs s)){s:σ}(hs:Q s):Q (mB qO ku n r k s):=by
 unfold mB;split
 ·exact (GB hQ k 0 _ _ length_replicate (yw n1 k) hs).2
 ·exact hs
structure Bo where
 i:Int
 r:aR
 hd:Sl Int
 cs:Sl (Sl Int)
 ls:Sl Int
def xu(p:Bo):List AV:=bu p.i p.r (varsOf p.r).length (an encI 1 p.hd) (an eu 1 p.cs) (an encI 1 p.ls)
theorem Jg(p:Bo):(xu p).length=8:=rfl
theorem Jh(p:Bo):bE (xu p)=true:=Jf _ _ _ _ _ _
structure Bo.ok (p:Bo):Prop where
 kH:p.r.kH
 Bn:(varsOf p.r).length<=12
 hd:p.hd.l=iH (varsOf p.r) p.r.args.l
 cs:p.cs.l.map Sl.l=p.r.body.l.map (fun c=>iH (varsOf p.r) c.args.l)
 ls:p.ls.l=p.r.body.l.map (fun c=>iZ (placesOf (varsOf p.r) c.args.l))
def mH(n:Nat)(r:aR)(s:DB×Bool):DB×Bool:=mB (fun s=>s.1) (wm n r) n r (varsOf r).length s
def oz(n:Nat)(rs:List aR)(s:DB×Bool):DB×Bool:=rs.foldl (fun s r=>mH n r s) s
theorem O1{rs:List aR}{i:Nat}{r:aR}(hr:rs[i]?=some r)(s:DB×Bool):oz n (rs.take (i+1)) s=mH n r (oz n (rs.take i) s):=by
 unfold oz;rw [take_add_one,hr];simp
inductive Reach (n:Nat) (rs:List aR) (D0:DB):DB->Prop
 |refl:Reach n rs D0 D0
 |step (D:DB):Reach n rs D0 D->Reach n rs D0 (oz n rs (D,false)).1
theorem EO:∀ (l:List Bool) (i:Nat),l[i]?=some false->(l.set i true).count false<l.count false
 |[],i,h=>by simp at h
 |b :: l,0,h=>by
  simp only [getElem?_cons_zero,Option.some.injEq] at h;subst h;simp
 |b :: l,i+1,h=>by
  rw [getElem?_cons_succ] at h;have:=EO l i h;rw [set_cons_succ,count_cons,count_cons];omega
def aa7(D:DB)(nm:bQ):Nat:=match D nm with|none=>0|some p=>p.2.count false
def GC(names:List bQ)(D:DB):Nat:=(names.map (aa7 D)).sum
structure MU (names:List bQ) (D0 D:DB) (s:DB×Bool):Prop where
 Sd:fF s.1 D0
 le:GC names s.1<=GC names D
 lt:s.2=true->GC names s.1<GC names D
 same:s.2=false->s.1=D
theorem U0{names:List bQ}{D0 D:DB}{r:aR}(mN:r.name ∈ names)(hk:k=(varsOf r).length)(hh:∃ p,D0 r.name=some p/\p.2.length=n ^ r.args.l.length){s:DB×Bool}(tI:vs.length=k)(BH:iJ n vs=true)(q:MU names D0 D s):MU names D0 D (wm n r vs s):=by
 obtain ⟨p0,Ht,hl0⟩:=hh;obtain ⟨p,hp,_,hl⟩:=q.Sd.get Ht;have mM:∀ p ∈ placesOf (varsOf r) r.args.l,p<vs.length:=by rw [tI,hk];exact hG jl
 have nM:(placesOf (varsOf r) r.args.l).length=r.args.l.length:=by unfold placesOf;simp
 have sj:iy n (aM vs (placesOf (varsOf r) r.args.l))<p.2.length:=by
  have:=lX (iD BH mM);rw [fM,nM] at this;omega
 have OJ:wm n r vs s=if p.2.getD (iy n (aM vs (placesOf (varsOf r) r.args.l))) false=true then s else (mU s.1 r.name p.1 (p.2.set (iy n (aM vs (placesOf (varsOf r) r.args.l))) true),true):=by unfold wm;rw [hp]
 rw [OJ];generalize iy n (aM vs (placesOf (varsOf r) r.args.l))=rk at sj ⊢;split
 ·exact q
 ·rename_i hb
  have oI:p.2[rk]?=some false:=by
   rw [getD_eq_getElem?_getD,ec sj] at hb;rw [ec sj];simp only [getD_some,not_eq_true] at hb;rw [hb]
  have eM:GC names (mU s.1 r.name p.1 (p.2.set rk true))<GC names s.1:=by
   refine eL.N8 (fun nm=>?_) (t:=r.name) ?_ mN
   ·unfold aa7 mU;by_cases e:nm=r.name
    ·subst e;rw [if_pos rfl,hp];exact Nat.le_of_lt (EO _ _ oI)
    ·rw [if_neg e];exact dK _
   ·unfold aa7 mU;rw [if_pos rfl,hp];exact EO _ _ oI
  have:=q.le;exact ⟨q.Sd.set hp (by simp),by show GC names (mU s.1 r.name p.1 (p.2.set rk true))<=_;omega,fun _=>by show GC names (mU s.1 r.name p.1 (p.2.set rk true))<_;omega,fun h=>by cases h⟩
theorem MV{names:List bQ}{D0 D:DB}{r:aR}(n1:1<=n)(mN:r.name ∈ names)(hh:∃ p,D0 r.name=some p/\p.2.length=n ^ r.args.l.length){s:DB×Bool}(q:MU names D0 D s):MU names D0 D (mH n r s):=
 uZ n1 (fun vs s h1 h2 h3=>U0 mN rfl hh h1 h2 h3) q
theorem Dq(nm:bQ)(xs:List bQ):oo nm xs=(eU nm&&ou xs):=by
 unfold oo ou;rw [Bool.and_comm (xs.all eU)]
def kZ(r:aR):Bool:=eU r.name&&(ou r.args.l&&(decide (r.body.l.length<=20)&&(r.body.l.all iU&&decide ((varsOf r).length<=12))))
theorem dh{r:aR}(lu:r.ok)(hf:r.kH){h:ag}{K:Out->ag->Bool}(hK:K (.ret (.bool (kZ r))) h=true) :
  Sem TP 84 [.agg [.str r.name,an encS 1 r.args,an bR 4 r.body]] h K:=by
 refine Sem.data (r:=.bool (kZ r)) ?_ (by have:=dW r;simpa [aO,AV.cN,AV.pure] using this) hK;clear hK;have pH:r.body.l.length<=cu:=lu.2.2.2.1;refine F.FO ?_;rw [F.HO];have g0:(ag.alloc ag.empty (.cells (aO r))).get 0=some (.cells (aO r)):=aD _ _;have gn:(ag.alloc ag.empty (.cells (aO r))).next=1:=rfl
 have hb:eR (.agg [.str r.name,an encS 1 r.args,an bR 4 r.body])=some (aO r):=cG (jJ r);simp only [hb,aq,bA];generalize (ag.alloc ag.empty (.cells (aO r)))=H at g0 gn ⊢;have fin:∀ (b:Bool) h',b=kZ r->qm (.bool (kZ r)) (.ret (.bool b)) h'=true:=fun b h' hb=>by rw [hb];exact c8 rfl
 generalize qm (.bool (kZ r))=R at fin ⊢;simp only [aS,reduceAdd,reduceEqDiff,reduceIte,ai g0,aO];refine aj (fq ?_);simp only [aS,reduceAdd,reduceEqDiff,reduceIte]
 cases hn:eU r.name with
 |false=>simp only [Bool.not_false,aF];exact fin _ _ (by simp [kZ,hn])
 |true=>
 simp only [Bool.not_true,aE,aS,reduceAdd,reduceEqDiff,reduceIte,ai g0,aO];refine aj (eO lu.2.1 ?_);simp only [aS,reduceAdd,reduceEqDiff,reduceIte]
 cases Ty:ou r.args.l with
 |false=>simp only [Bool.not_false,aF];exact fin _ _ (by simp [kZ,Ty])
 |true=>
 simp only [Bool.not_true,aE,aS,reduceAdd,reduceEqDiff,reduceIte,ai g0,aO];by_cases tC:20<r.body.l.length
 ·simp only [ey (by omega:(20:Int)<(r.body.l.length:Int)),aF];exact fin _ _ (by simp [kZ,show ¬ r.body.l.length<=20 by omega])
 simp only [ep (by omega:¬ (20:Int)<(r.body.l.length:Int)),aE];have ajM:r.body.l.length<=20:=by omega
 refine aG 0 r.body.l.length (zero_le _) (fun i e h'=>bG H h'/\e 1 = .ptr 0 0/\e 3 = .int .i64 (i:Int)/\(r.body.l.take i).all iU=true) ⟨bG.refl _,rfl,rfl,rfl⟩ ?_ ?_
 ·rintro i e h' _ hi ⟨x1,e1,e3,ht⟩ K' sV hx hr hp;have hv:r.body.l[i]?=some r.body.l[i]:=ec hi;generalize r.body.l[i]=c at hv;have MW:=lu.2.2.2.2 c (iA hv);have q0:h'.get 0=some (.cells (aO r)):=by rw [x1.get 0 (by omega)];exact g0
  obtain ⟨H2,qX,k1,ko,kn⟩:=cR (h:=h') (zs:=[.int .i64 0,.bool false,.str [],.au]) (cs:=bR c) (n:=4) rfl rfl (gQ c);have x2:bG H H2:=x1.trans ⟨by omega,fun b hb=>ko b (by omega)⟩;have no:iU c=false->∀ h',R (.ret (.bool false)) h'=true:=fun hc h'=>fin _ _ (by simp [kZ,all_false hv hc]);rw [F.dh.aT];simp only [e1,e3,aS,reduceAdd,reduceEqDiff,reduceIte,ai q0,aO,bl hi,aU r.body hi,cX gh hv,qX];simp only [aS,reduceAdd,reduceEqDiff,reduceIte,ai k1,bR,ct];by_cases k0:c.kind=0
  ·have hco:iU c=(eU c.name&&ou c.args.l):=by unfold iU;rw [if_pos k0,Dq]
   simp only [ey k0,aF,aS,reduceAdd,reduceEqDiff,reduceIte,ai k1,bR];refine aj (fq ?_);simp only [aS,reduceAdd,reduceEqDiff,reduceIte]
   cases n1:eU c.name with
   |false=>
    simp only [Bool.not_false,aF];rw [hr,F.dh.bt];exact no (by rw [hco,n1];rfl) _
   |true=>
   simp only [Bool.not_true,aE,aS,reduceAdd,reduceEqDiff,reduceIte,ai k1,bR];refine aj (eO MW.2.1 ?_);simp only [aS,reduceAdd,reduceEqDiff,reduceIte]
   cases n2:ou c.args.l with
   |false=>
    simp only [Bool.not_false,aF];rw [hr,F.dh.bt];exact no (by rw [hco,n2,Bool.and_false]) _
   |true=>
   simp only [Bool.not_true,aE,aK hi pH,aq];exact sV _ _ ⟨x2,e1,rfl,kj hv ht (by rw [hco,n1,n2];rfl)⟩
  simp only [ep k0,aE]
  have J:∀ (e:Env) (b:Bool),e 1 = .ptr 0 0->e 3 = .int .i64 (i:Int)->e 4 = .ptr h'.next 0->e 44 = .bool b->(b=true↔(c.kind=1\/c.kind=2))->F.dh.J0 K' ⟨e,67,[],H2⟩=true:=by
   intro e b e1 e3 e4 e44 hb;rw [F.dh.FN];simp only [e4,e44,aS,reduceAdd,reduceEqDiff,reduceIte]
   cases b with
   |false=>
    simp only [aE];have:¬ (c.kind=1\/c.kind=2):=fun h=>by have:=hb.2 h;cases this
    rw [hr,F.dh.bt];exact no (by unfold iU;rw [if_neg k0,if_neg this]) _
   |true=>
    have hk:=hb.1 rfl;have Tq:iU c=(decide (c.name = [])&&(decide (c.args.l.length=2)&&c.args.l.all eU)):=by simp only [iU,if_neg k0,if_pos hk]
    simp only [aF,aS,reduceAdd,reduceEqDiff,reduceIte,ai k1,bR,sR];by_cases hn:c.name = []
    ·simp only [ey hn,Bool.not_true,aE,aS,reduceAdd,reduceEqDiff,reduceIte,ai k1,bR,ct];by_cases h2:c.args.l.length=2
     ·simp only [ey (by omega:(c.args.l.length:Int)=2),Bool.not_true,aE,aS,reduceAdd,reduceEqDiff,reduceIte,ai k1,bR];refine aj (eO MW.2.1 ?_);simp only [aS,reduceAdd,reduceEqDiff,reduceIte];have nx:ou c.args.l=c.args.l.all eU:=by unfold ou;rw [ey (by omega:c.args.l.length<=12),Bool.and_true]
      rw [nx]
      cases n2:c.args.l.all eU with
      |false=>
       simp only [Bool.not_false,aF];rw [hr,F.dh.bt];exact no (by rw [Tq,n2,Bool.and_false,Bool.and_false]) _
      |true=>
       simp only [Bool.not_true,aE,e3,aK hi pH,aq];exact sV _ _ ⟨x2,e1,rfl,kj hv ht (by rw [Tq,n2];simp [hn,h2])⟩
     ·simp only [ep (by omega:¬ (c.args.l.length:Int)=2),Bool.not_false,aF];rw [hr,F.dh.bt];exact no (by rw [Tq];simp [h2]) _
    ·simp only [ep hn,Bool.not_false,aF];rw [hr,F.dh.bt];exact no (by rw [Tq];simp [hn]) _
  by_cases k1':c.kind=1
  ·simp only [ey k1',aF];exact J _ true e1 e3 rfl rfl (by simp [k1'])
  ·simp only [ep k1',aE];exact J _ (decide (c.kind=2)) e1 e3 rfl rfl (by simp [k1'])
 ·rintro e h' ⟨x1,e1,e3,ht⟩ K' hx;have q0:h'.get 0=some (.cells (aO r)):=by rw [x1.get 0 (by omega)];exact g0
  rw [F.dh.aT];simp only [e1,e3,aS,reduceAdd,reduceEqDiff,reduceIte,ai q0,aO,aX];rw [hx,F.dh.aJ];simp only [e1,aS,reduceAdd,reduceEqDiff,reduceIte,ai q0,aO,om];refine aj (bU hf fun x jG=>?_);simp only [aS,reduceAdd,reduceEqDiff,reduceIte,jG];rw [kB (dK _)] at ht;refine fin _ _ ?_;unfold kZ;rw [hn,Ty,ey ajM,ht];by_cases Cp:(varsOf r).length<=12
  ·rw [ey Cp,ey (by omega:((varsOf r).length:Int)<=12)];rfl
  ·rw [ep Cp,ep (by omega:¬ ((varsOf r).length:Int)<=12)];rfl
def eY(cs:List dD):List (bQ×Int):=(cs.filter fun c=>decide (c.kind=0)).map fun c=>(c.name,(c.args.l.length:Int))
def zY(r:aR):List (bQ×Int):=(r.name,(r.args.l.length:Int)) :: eY r.body.l
def cV(rs:List aR):List (bQ×Int):=rs.flatMap zY
theorem GD{cs:List dD}{c:dD}(hc:cs[j]?=some c):eY (cs.take (j+1))=eY (cs.take j)++if c.kind=0 then [(c.name,(c.args.l.length:Int))] else []:=by
 unfold eY;rw [take_add_one,hc,toList_some,filter_append,map_append];by_cases h:c.kind=0<;>simp [h]
theorem tD(cs:List dD):(eY cs).length<=cs.length:=by
 unfold eY;rw [length_map];exact length_filter_le _ _
theorem xw:∀ rs:List aR,(∀ r ∈ rs,r.body.l.length<=20)->(cV rs).length<=rs.length*21
 |[],_=>dK _
 |r :: rs,h=>by
  have h1:=xw rs fun q hq=>h q (mem_cons_of_mem _ hq);have h2:=tD r.body.l;have h3:=h r mem_cons_self;show (zY r++cV rs).length<=_;unfold zY;rw [length_append,length_cons,length_cons];omega
theorem cY{rules:Sl aR}(qd:rules.l.length<=60)(tC:∀ r ∈ rules.l,r.body.l.length<=20){h:ag}{K:Out->ag->Bool}(hK:∀ x:Sl (bQ×Int),x.l=cV rules.l->K (.ret (an qq 2 x)) h=true) :
  Sem TP 85 [an aO 3 rules] h K:=by
 have j8:rules.l.length<=cu:=by unfold cu;omega
 have hmx:dw=140737488355328:=rfl
 have main:Sem TP 85 [an aO 3 rules] ag.empty (fun o h'=>yes (∃ v,∃ x:Sl (bQ×Int),o = .ret v/\x.l=cV rules.l/\Fz true h' v (an qq 2 x))):=by
  refine F.DO ?_;rw [F.FK];refine aG 0 rules.l.length (zero_le _) (fun i e h'=>∃ a,Own qq 2 0 h' a (cV (rules.l.take i))/\e 0=an aO 3 rules/\e 3=a/\e 4 = .int .i64 (i:Int)) ⟨.au,.nil,rfl,rfl,rfl⟩ ?_ ?_
  ·rintro i e h' _ hi ⟨a,o,e0,e3,e4⟩ K' hn hx hr hp;have hv:rules.l[i]?=some rules.l[i]:=ec hi;generalize rules.l[i]=r at hv;have afO:=tC r (iA hv);have pH:r.body.l.length<=cu:=by unfold cu;omega
   have ld:∀ j,j<3->∀ h,ah none (.dI (rules.l.flatMap aO) (i*3+j)) h=(aO r)[j]?:=fun j hj h=>fE ei hv hj;have ld0:∀ h,ah none (.dI (rules.l.flatMap aO) (i*3)) h=some (.str r.name):=fun h=>ld 0 (by omega) h
   have yJ:(cV (rules.l.take i)).length<=1260:=by
    have h1:=xw (rules.l.take i) fun q hq=>tC q (mem_of_mem_take hq);have h2:=length_take_le i rules.l;omega
   obtain ⟨a1,h1,p1,p2,p3,p4,p5,p6⟩:=o.push rP (fun x=>rfl) (zero_le _) (bytes:=24) (by omega) (r.name,(r.args.l.length:Int));rw [F.cY.aT];simp only [e0,e3,e4,aS,reduceAdd,reduceEqDiff,reduceIte,bl hi,aU rules hi,ld0,ld 1 (by omega),aO,UA,UB,p1]
   refine aG 0 r.body.l.length (zero_le _) (fun j e h2=>∃ a,Own qq 2 0 h2 a (cV (rules.l.take i)++(r.name,(r.args.l.length:Int)) :: eY (r.body.l.take j))/\e 0=an aO 3 rules/\e 3=a/\e 4 = .int .i64 (i:Int)/\e 5 = .int .i64 (j:Int))
    ⟨a1,by simpa [eY] using p2,e0,rfl,e4,rfl⟩ ?_ ?_
   ·rintro j e h2 _ hj ⟨a,o,e0,e3,e4,e5⟩ K2 qM iu vL Il;have hc:r.body.l[j]?=some r.body.l[j]:=ec hj;generalize r.body.l[j]=c at hc;obtain ⟨H2,qX,k1,ko,kn⟩:=cR (h:=h2) (zs:=[.int .i64 0,.bool false,.str [],.au]) (cs:=bR c) (n:=4) rfl rfl (gQ c);have x2:bG h2 H2:=⟨by omega,fun b hb=>ko b (by omega)⟩
    have ic:=GD hc;rw [F.cY.eC];simp only [e0,e3,e4,e5,aS,reduceAdd,reduceEqDiff,reduceIte,aU rules hi,ld 2 (by omega),aO,bl hj,aU r.body hj,cX gh hc,qX];simp only [aS,reduceAdd,reduceEqDiff,reduceIte,ai k1,bR,ct];by_cases k0:c.kind=0
    ·rw [if_pos k0] at ic
     have BF:(eY (r.body.l.take j)).length<=20:=by
      have h1:=tD (r.body.l.take j);have h2:=length_take_le' j r.body.l;omega
     obtain ⟨a2,h3,s1,s2,s3,s4,s5,s6⟩:=(o.ext x2).push rP (fun x=>rfl) (zero_le _) (bytes:=24) (by rw [length_append,length_cons];omega) (c.name,(c.args.l.length:Int));simp only [ey k0,aF,aS,reduceAdd,reduceEqDiff,reduceIte,ai k1,bR,UA,UB,s1,aK hj pH];refine qM _ _ ⟨a2,?_,e0,rfl,e4,rfl⟩;rw [ic];simpa using s2
    ·rw [if_neg k0,append_nil] at ic;simp only [ep k0,aE,aK hj pH,aq];exact qM _ _ ⟨a,by rw [ic];exact o.ext x2,e0,e3,e4,rfl⟩
   ·rintro e h2 ⟨a,o,e0,e3,e4,e5⟩ K2 iu;rw [F.cY.eC];simp only [e0,e4,e5,aS,reduceAdd,reduceEqDiff,reduceIte,aU rules hi,ld 2 (by omega),aO,aX];rw [iu,F.cY.cZ];simp only [e4,aS,reduceAdd,reduceEqDiff,reduceIte,aK hi j8];refine hn _ _ ⟨a,?_,e0,e3,rfl⟩;rw [kB (dK _)] at o
    have:cV (rules.l.take (i+1))=cV (rules.l.take i)++(r.name,(r.args.l.length:Int)) :: eY r.body.l:=by
     unfold cV;rw [take_add_one,hv];simp [zY]
    rw [this];exact o
  ·rintro e h' ⟨a,o,e0,e3,e4⟩ K' hx;rw [F.cY.aT];simp only [e0,e4,aS,reduceAdd,reduceEqDiff,reduceIte,aX];rw [hx,F.cY.aJ];rw [kB (dK _)] at o;simp only [bg,reduceEqDiff,reduceIte,e3]
   obtain ⟨x,jG,iu⟩:=o.MF (fun v y hy=>by
    simp only [qq,mem_cons,not_mem_nil,_root_.or_false] at hy
    rcases hy with rfl|rfl<;>exact .scalar _ rfl)
   exact cO.2 ⟨a,x,rfl,jG,iu⟩
 refine main.frozen (by simp [AV.cN,bI dW]) fun o h' ho=>?_;obtain ⟨v,x,rfl,hx,hf⟩:=cO.1 ho;exact ⟨v,_,rfl,hf,hK x hx⟩
theorem pU{f:St->(AX->St->Bool)->Bool}{K:AX->St->Bool}{defs:List su}{e0:Env}{h0:ag}(I:Nat->Env->ag->Prop)(m:Nat)(hI:I m e0 h0)
  (step:∀ m e h,I m e h->∀ K':AX->St->Bool,(∀ m' e' h',m'<m->I m' e' h'->K' .normal ⟨e',n,defs,h'⟩=true)->(∀ id s,K' (.exit id) s=K (.exit id) s)->(∀ s,K' .ret s=K .ret s)->f ⟨e,n,defs,h⟩ K'=true):bX f ⟨e0,n,defs,h0⟩ K=true:=
 nq I m hI fun m e h hi=>step m e h hi _ (fun m' e' h' eM tj=>uF (I:=I) m' eM tj) (fun _ _=>rfl) (fun _=>rfl)
theorem zZ:∀ (l:List bQ) (s:bQ),(fR l s).length<=l.length+1
 |[],s=>dK _
 |x :: l,s=>by
  have:=zZ l s;rw [fR];split
  ·rw [length_cons,length_cons];omega
  ·split
   ·omega
   ·simp
def dG(rs:List aR):List bQ:=rs.foldl (fun o r=>fR o r.name) []
theorem Se{rs:List aR}{i:Nat}{r:aR}(hr:rs[i]?=some r):dG (rs.take (i+1))=fR (dG (rs.take i)) r.name:=by
 unfold dG;rw [take_add_one,hr];simp
theorem vB:∀ (rs:List aR) (o:List bQ),(rs.foldl (fun o r=>fR o r.name) o).length<=o.length+rs.length
 |[],o=>dK _
 |r :: rs,o=>by
  have h1:=vB rs (fR o r.name);have h2:=zZ o r.name;rw [foldl_cons,length_cons];omega
theorem mV(rs:List aR):(dG rs).length<=rs.length:=by
 have:=vB rs [];simpa [dG] using this
theorem rW:∀ (rs:List aR) (o:List bQ),Bc o->Bc (rs.foldl (fun o r=>fR o r.name) o)
 |[],o,h=>h
 |r :: rs,o,h=>rW rs _ (zf h r.name)
theorem pW(rs:List aR):Bc (dG rs):=rW rs [] List.Pairwise.nil
theorem vC{s:bQ}:∀ (rs:List aR) (o:List bQ),s ∈ rs.foldl (fun o r=>fR o r.name) o↔s ∈ o\/s ∈ ax rs
 |[],o=>by simp [ax]
 |r :: rs,o=>by
  rw [foldl_cons,vC rs,uX];simp [ax,_root_.or_assoc]
theorem dJ(rs:List aR):s ∈ dG rs↔s ∈ ax rs:=by
 have:=vC (s:=s) rs [];simpa [dG] using this
theorem xy{l:List bQ}(h:Bc l):l.Nodup:=by
 unfold Bc at h;unfold List.Nodup;exact h.imp fun {a b} zM e=>by subst e;rw [yu] at zM;cases zM
theorem dm{rules:Sl aR}(qd:rules.l.length<=60){h:ag}{K:Out->ag->Bool}(hK:∀ x:Sl bQ,x.l=dG rules.l->K (.ret (an encS 1 x)) h=true) :
  Sem TP 34 [an aO 3 rules] h K:=by
 have j8:rules.l.length<=cu:=by unfold cu;omega
 have main:Sem TP 34 [an aO 3 rules] ag.empty (fun o h'=>yes (∃ v,∃ x:Sl bQ,o = .ret v/\x.l=dG rules.l/\Fz true h' v (an encS 1 x))):=by
  refine F.AT ?_;rw [F.B3];refine aG 0 rules.l.length (zero_le _) (fun i e h'=>∃ a,Own encS 1 0 h' a (dG (rules.l.take i))/\e 0=an aO 3 rules/\e 3=a/\e 4 = .int .i64 (i:Int)) ⟨.au,.nil,rfl,rfl,rfl⟩ ?_ ?_
  ·rintro i e h' _ hi ⟨a,o,e0,e3,e4⟩ K' hn hx hr hp;have hv:rules.l[i]?=some rules.l[i]:=ec hi;generalize rules.l[i]=r at hv;have ld:∀ h,ah none (.dI (rules.l.flatMap aO) (i*3)) h=some (.str r.name):=fun h=>fE ei hv (by omega:0<3);have ic:=Se hv;rw [F.dm.aT];simp only [e0,e3,e4,aS,reduceAdd,reduceEqDiff,reduceIte,bl hi,aU rules hi,ld];refine aj (fA o (zero_le _) (by have h1:=mV (rules.l.take i);have h2:=length_take_le i rules.l;omega) fun a1 h1 x1 o1=>?_);simp only [aS,reduceAdd,reduceEqDiff,reduceIte,aK hi j8];exact hn _ _ ⟨a1,by rw [ic];exact o1,e0,rfl,rfl⟩
  ·rintro e h' ⟨a,o,e0,e3,e4⟩ K' hx;rw [F.dm.aT];simp only [e0,e4,aS,reduceAdd,reduceEqDiff,reduceIte,aX];rw [hx,F.dm.aJ];rw [kB (dK _)] at o;simp only [bg,reduceEqDiff,reduceIte,e3]
   obtain ⟨x,jG,iu⟩:=o.MF (fun v y hy=>by
    simp only [encS,mem_cons,not_mem_nil,_root_.or_false] at hy
    subst hy;exact .scalar _ rfl)
   exact cO.2 ⟨a,x,rfl,jG,iu⟩
 refine main.frozen (by simp [AV.cN,bI dW]) fun o h' ho=>?_;obtain ⟨v,x,rfl,hx,hf⟩:=cO.1 ho;exact ⟨v,_,rfl,hf,hK x hx⟩
theorem dQ{x:Sl bQ}{s:bQ}(hx:x.l.length<=cu){h:ag}{K:Out->ag->Bool}(GF:∀ i:Nat,x.l[i]?=some s->K (.ret (.int .i64 (i:Int))) h=true)(pX:s ∉ x.l->K (.ret (.int .i64 (-1))) h=true):Sem TP 58 [an encS 1 x,.str s] h K:=by
 refine F.DN ?_;rw [F.FJ];refine aG 0 x.l.length (zero_le _) (fun i e h'=>h'=h/\e 0=an encS 1 x/\e 1 = .str s/\e 5 = .int .i64 (i:Int)/\s ∉ x.l.take i) ⟨rfl,rfl,rfl,rfl,by simp⟩ ?_ ?_
 ·rintro i e h' _ hi ⟨rfl,e0,e1,e5,ht⟩ K' hn iY hr hp;have hv:x.l[i]?=some x.l[i]:=ec hi;generalize x.l[i]=t at hv;rw [F.dQ.aT];simp only [e0,e1,e5,aS,reduceAdd,reduceEqDiff,reduceIte,bl hi,aU x hi,jz hv,sR];by_cases hq:t=s
  ·subst hq;simp only [decide_true,aF];rw [hr,F.dQ.bt];exact GF i hv
  ·simp only [ep hq,aE,aK hi hx,aq];refine hn _ _ ⟨rfl,e0,e1,rfl,?_⟩;rw [take_add_one,hv];simp only [toList_some,mem_append,mem_singleton];exact fun h=>h.elim ht fun h=>hq h.symm
 ·rintro e h' ⟨rfl,e0,e1,e5,ht⟩ K' iY;rw [F.dQ.aT];simp only [e0,e5,aS,reduceAdd,reduceEqDiff,reduceIte,aX];rw [iY,F.dQ.aJ];rw [kB (dK _)] at ht;exact pX ht
end
end Go.AM