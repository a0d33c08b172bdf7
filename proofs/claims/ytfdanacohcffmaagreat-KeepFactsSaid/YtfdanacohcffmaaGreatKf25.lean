/- Parts of the proof. Conditions: none. -/
import Derived.Test.YtfdanacohcffmaaGreatKf2
import Derived.Test.YtfdanacohcffmaaGreatKf10
import Derived.Test.YtfdanacohcffmaaGreatKf15
import Derived.Test.YtfdanacohcffmaaGreatKf18
set_option linter.unusedSimpArgs false
set_option linter.unusedVariables false
namespace Go.AM
open List Nat Bool Option
open Go Go.Proofs
noncomputable section
variable {h h':Heap} {K:Out->Heap->Bool} {i b ck k sz:Nat} {α:Type} {es:List Entry} {a:AV} {d:List Int} {l:List b6} {m:eF} {n v:Int} {s:b6}
def m9(n:Int):Bool:=(decide (97<=n)&&decide (n<=122))||(decide (65<=n)&&decide (n<=90))
def xg(n:Int):Bool:=decide (48<=n)&&decide (n<=57)
def words:List b6:=[[97,110,100],[111,114],[110,111,116],[115,111,109,101],[97,108,108],[108,102,112],[112,102,112],[116,99],[101,120,105,115,116,115],[116,114,117,101],[102,97,108,115,101]]
def Dk(s:b6):Bool:=words.any fun w=>s==w
theorem yF(hK:K (.ret (.bool (m9 n))) h=true):Sem TP 180 [.int .u8 n] h K:=by
 refine F.zx ?_;rw [F.A5];simp only [rC,yj,aq,cC];unfold m9 at hK;by_cases h1:97<=n<;>by_cases h2:n<=122<;>by_cases h3:65<=n<;>by_cases h4:n<=90<;>simpa [h1,h2,h3,h4] using hK
theorem I2(hK:K (.ret (.bool (xg n))) h=true):Sem TP 182 [.int .u8 n] h K:=by
 refine F.A6 ?_;rw [F.CL];simp only [rC,yj,aq,cC];unfold xg at hK;by_cases h1:48<=n<;>by_cases h2:n<=57<;>simpa [h1,h2] using hK
theorem yG(hK:K (.ret (.bool (m9 n))) h=true):Sem TP 150 [.int .u8 n] h K:=by
 refine F.zy ?_;rw [F.A7];simp only [rC,yj,aq,cC];unfold m9 at hK;by_cases h1:97<=n<;>by_cases h2:n<=122<;>by_cases h3:65<=n<;>by_cases h4:n<=90<;>simpa [h1,h2,h3,h4] using hK
theorem I3(hK:K (.ret (.bool (xg n))) h=true):Sem TP 152 [.int .u8 n] h K:=by
 refine F.A8 ?_;rw [F.CN];simp only [rC,yj,aq,cC];unfold xg at hK;by_cases h1:48<=n<;>by_cases h2:n<=57<;>simpa [h1,h2] using hK
theorem K5(hK:K (.ret (.bool (Dk s))) h=true):Sem TP 181 [.str s] h K:=by
 refine F.CK ?_;rw [F.EE];simp only [CC,aq,cC];simp only [Dk,words,any_cons,any_nil,Bool.or_false] at hK
 repeat (first|exact hK|(generalize (s==_)=b at hK ⊢;cases b<;>simp only [aL,aJ,Bool.true_or,Bool.false_or] at hK ⊢<;>try exact hK))
theorem K6(hK:K (.ret (.bool (Dk s))) h=true):Sem TP 151 [.str s] h K:=by
 refine F.CM ?_;rw [F.EF];simp only [CC,aq,cC];simp only [Dk,words,any_cons,any_nil,Bool.or_false] at hK
 repeat (first|exact hK|(generalize (s==_)=b at hK ⊢;cases b<;>simp only [aL,aJ,Bool.true_or,Bool.false_or] at hK ⊢<;>try exact hK))
def okB(b:UInt8):Bool:=m9 b.toNat||xg b.toNat
def ec(s:b6):Bool:=match s with
 |[]=>false
 |c :: _=>decide (s.length<=12)&&(m9 c.toNat&&(!Dk s&&s.all okB))
theorem ju{p:α->Bool}{l:List α}{a:α}(ha:l[i]?=some a)(ht:(l.take i).all p=true)(hp:p a=true):(l.take (i+1)).all p=true:=by
 rw [take_add_one,ha];simp [ht,hp]
theorem all_false{p:α->Bool}{l:List α}{a:α}(ha:l[i]?=some a)(hp:p a=false):l.all p=false:=by
 rw [eq_false_iff];intro h;rw [List.all_eq_true] at h;have:=h a (ig ha);rw [hp] at this;cases this
theorem ef{s:b6}{h:Heap}{K:Out->Heap->Bool}(hK:K (.ret (.bool (ec s))) h=true):Sem TP 153 [.str s] h K:=by
 refine F.CI ?_;rw [F.EC]
 cases s with
 |nil=>simpa [ec,nM,rB,az,af] using hK
 |cons c s'=>
  have h0:(c :: s')[0]?=some c:=rfl;simp only [nM,rB,G3,aq,cC];have h1:decide (((c :: s').length:Int)<1)=false:=by simp;omega
  simp only [h1,aJ];by_cases h2:(c :: s').length<=12
  ·have h3:decide ((12:Int)<((c :: s').length:Int))=false:=by simp at h2 ⊢;omega
   simp only [h3,aJ];rw [show kZ (.str (c :: s')) (.int .i64 0)=some (.int .u8 (c.toNat:Int)) from BT (i:=0) h0];simp only [aq];refine ah (yF ?_);simp only [kS,oN,aq,cC]
   cases hl:m9 c.toNat with
   |false=>simpa [ec,hl] using hK
   |true=>
    simp only [Bool.not_true,aJ];refine ah (K5 ?_);simp only [kS,cC]
    cases hw:Dk (c :: s') with
    |true=>simpa [ec,hl,hw] using hK
    |false=>
     simp only [aJ];have hn:ec (c :: s')=(c :: s').all okB:=by simp only [ec,hl,hw,Bool.not_false,Bool.true_and];rw [fE h2,Bool.true_and]
     rw [hn] at hK;have h4:((c :: s').take 1).all okB=true:=by simp [okB,hl]
     have h5:1<=(c :: s').length:=(by simp);clear h0 h1 h3 hl hw hn;generalize (c :: s')=s at hK h2 h4 h5 ⊢;refine aE 1 s.length h5 (fun i e h'=>h'=h/\e 0 = .str s/\e 3 = .int .i64 (i:Int)/\(s.take i).all okB=true) ⟨rfl,rfl,rfl,h4⟩ ?_ ?_
     ·rintro i e h' _ hi ⟨rfl,e0,e3,ht⟩ K' hn hx hr hp;have hb:s[i]?=some s[i]:=ep hi;have hlt:decide ((i:Int)<(s.length:Int))=true:=by simp;omega
      rw [F.ef.aT];simp only [e0,e3,nM,rB,BT hb,aq,cC,hlt,aL];refine ah (yF ?_);simp only [kS,oN,aq,cC]
      cases hl:m9 s[i].toNat with
      |true=>
       simp only [Bool.not_true,aJ,iF (a:=(i:Int)) (b:=1) (by omega) (by omega),aq];exact hn _ _ ⟨rfl,e0,rfl,ju hb ht (by simp [okB,hl])⟩
      |false=>
       simp only [Bool.not_false,aL];refine ah (I2 ?_);simp only [kS,oN,aq,cC]
       cases hd:xg s[i].toNat with
       |true=>
        simp only [Bool.not_true,aJ,iF (a:=(i:Int)) (b:=1) (by omega) (by omega),aq];exact hn _ _ ⟨rfl,e0,rfl,ju hb ht (by simp [okB,hd])⟩
       |false=>
        simp only [Bool.not_false,aL];rw [hr,F.ef.bB];have:s.all okB=false:=all_false hb (by simp [okB,hl,hd]);rw [this] at hK;exact hK
     ·rintro e h' ⟨rfl,e0,e3,ht⟩ K' hx;have hlt:decide ((s.length:Int)<(s.length:Int))=false:=by simp
      rw [F.ef.aT];simp only [e0,e3,nM,rB,aq,cC,hlt,aJ];rw [hx,F.ef.aF];rw [kC (dL _)] at ht;rw [ht] at hK;exact hK
  ·have h3:decide ((12:Int)<((c :: s').length:Int))=true:=by simp at h2 ⊢;omega
   simp only [h3,aL];have:ec (c :: s')=false:=by simp only [ec];rw [eT h2];rfl
   rw [this] at hK;exact hK
theorem dP{s:b6}{h:Heap}{K:Out->Heap->Bool}(hK:K (.ret (.bool (ec s))) h=true):Sem TP 107 [.str s] h K:=by
 refine F.CJ ?_;rw [F.ED]
 cases s with
 |nil=>simpa [ec,CC,az,af] using hK
 |cons c s'=>
  have h0:(c :: s')[0]?=some c:=rfl;have h1:((c :: s')==([]:b6))=false:=rfl;simp only [nM,CC,G3,aq,cC,h1,aJ];by_cases h2:(c :: s').length<=12
  ·have h3:decide ((12:Int)<((c :: s').length:Int))=false:=by simp at h2 ⊢;omega
   simp only [h3,aJ];rw [show kZ (.str (c :: s')) (.int .i64 0)=some (.int .u8 (c.toNat:Int)) from BT (i:=0) h0];simp only [aq];refine ah (yG ?_);simp only [kS,oN,aq,cC]
   cases hl:m9 c.toNat with
   |false=>simpa [ec,hl] using hK
   |true=>
    simp only [Bool.not_true,aJ];refine ah (K6 ?_);simp only [kS,cC]
    cases hw:Dk (c :: s') with
    |true=>simpa [ec,hl,hw] using hK
    |false=>
     simp only [aJ,nM,aq];have hn:ec (c :: s')=(c :: s').all okB:=by simp only [ec,hl,hw,Bool.not_false,Bool.true_and];rw [fE h2,Bool.true_and]
     rw [hn] at hK;have h4:((c :: s').take 1).all okB=true:=by simp [okB,hl]
     have h5:1<=(c :: s').length:=(by simp);clear h0 h1 h3 hl hw hn;generalize (c :: s')=s at hK h2 h4 h5 ⊢;refine aE 0 s.length (zero_le _) (fun i e h'=>h'=h/\e 0 = .str s/\e 23 = .int .i64 (i:Int)/\e 22 = .int .i64 (s.length:Int)/\(s.take i).all okB=true) ⟨rfl,rfl,rfl,rfl,rfl⟩ ?_ ?_
     ·rintro i e h' _ hi ⟨rfl,e0,e3,Bz,ht⟩ K' hn hx hr hp;have hb:s[i]?=some s[i]:=ep hi;have hlt:decide ((i:Int)<(s.length:Int))=true:=by simp;omega
      rw [F.dP.aT];simp only [e0,e3,Bz,nM,rB,BT hb,aq,cC,hlt,aL];refine ah (yG ?_);simp only [kS,oN,aq,cC]
      cases hl:m9 s[i].toNat with
      |true=>
       simp only [Bool.not_true,aJ,iF (a:=(i:Int)) (b:=1) (by omega) (by omega),aq];exact hn _ _ ⟨rfl,e0,rfl,Bz,ju hb ht (by simp [okB,hl])⟩
      |false=>
       simp only [Bool.not_false,aL];refine ah (I3 ?_);simp only [kS,oN,aq,cC]
       cases hd:xg s[i].toNat with
       |true=>
        simp only [Bool.not_true,aJ,iF (a:=(i:Int)) (b:=1) (by omega) (by omega),aq];exact hn _ _ ⟨rfl,e0,rfl,Bz,ju hb ht (by simp [okB,hd])⟩
       |false=>
        simp only [Bool.not_false,aL];rw [hr,F.dP.bB];have:s.all okB=false:=all_false hb (by simp [okB,hl,hd]);rw [this] at hK;exact hK
     ·rintro e h' ⟨rfl,e0,e3,Bz,ht⟩ K' hx;have hlt:decide ((s.length:Int)<(s.length:Int))=false:=by simp
      rw [F.dP.aT];simp only [e0,e3,Bz,nM,rB,aq,cC,hlt,aJ];rw [hx,F.dP.aF];rw [kC (dL _)] at ht;rw [ht] at hK;exact hK
  ·have h3:decide ((12:Int)<((c :: s').length:Int))=true:=by simp at h2 ⊢;omega
   simp only [h3,aL];have:ec (c :: s')=false:=by simp only [ec];rw [eT h2];rfl
   rw [this] at hK;exact hK
theorem ja{x:Sl Int}(hv:x.l[i]?=some v):ag none (.dN (x.l.flatMap encI) (i*1)) h=some (.int .i64 v):=by
 rw [wP nk hv];rfl
def jC(n:Int)(l:List Int):Bool:=l.all fun x=>!decide (x<0)&&!decide (n<=x)
def iv(n:Int):AV:=.int .i64 n
theorem tO(d:List Int):d.map iv=d.flatMap encI:=by
 induction d with
 |nil=>rfl
 |cons a d ih=>rw [map_cons,flatMap_cons,ih];rfl
theorem nF{n:Nat}{k:IntKind}(h:i<n):dH 1 (.slice b 0 n 1) (.int k (i:Int))=some (.ptr b i):=by simp [dH,asNat,h]
theorem nN(hb:h.get b=some (.cells (d.map iv)))(hv:d[i]?=some v):ag none (.ptr b i) h=some (.int .i64 v):=by
 rw [aj hb,uK,getElem?_map,hv];rfl
theorem yH(hb:h.get b=some (.cells (d.map iv)))(hi:i<d.length):aS 1 (.ptr b i) (.int .i64 v) h=some (h.set b (.cells ((d.set i v).map iv))):=by
 rw [cq (n:=1) hb rfl rfl (by simp;omega),map_set];rfl
theorem WA(n:Nat):jf [.int .i64 0] n=(replicate n (0:Int)).map iv:=by
 induction n with
 |zero=>rfl
 |succ n ih=>rw [jf,ih];rfl
theorem BU{n:Nat}(hn:n<=1000000)(h:Heap):gI 1 8 [.int .i64 0] (.int .i64 (n:Int)) (.int .i64 (n:Int)) h=some (.slice h.next 0 n 1,h.alloc (.cells ((replicate n (0:Int)).map iv))):=by
 have:(8*(n:Int))<=140737488355328:=by omega
 simp [gI,za,this,WA]
theorem I4(hb:h.get b=some (.cells (d.map iv))):Fz true h (.slice b 0 d.length 1) (an encI 1 (some d)):=by
 refine .slice b 0 d.length 1 _ _ hb (by rw [tO]) fun i x y hx hy=>?_;rw [tO,hy] at hx;cases hx;rw [<- tO,getElem?_map] at hy;obtain ⟨v,hv,rfl⟩:=map_eq_some_iff.1 hy;exact .scalar _ rfl
theorem P4(a b:Int):∃ v,aG .add (.int .i64 a) (.int .i64 b)=some (.int .i64 v):=⟨_,Sq a b⟩
def vO(n:Nat):List Int->Nat->Nat
 |[],r=>r
 |x :: l,r=>vO n l (r*n+x.toNat)
def nA(n:Nat)(l:List Int):Nat:=vO n l 0
inductive Own {α:Type} (enc:α->List AV) (sz k:Nat) (h:Heap):AV->List α->Prop
 |nil:Own enc sz k h .ax []
 |row (b:Nat) (l:List α):k<=b->b<h.next->h.get b=some (.cells (l.flatMap enc))->Own enc sz k h (.slice b 0 l.length sz) l
variable {α:Type} {enc:α->List AV} {sz k:Nat}
theorem Own.len{l:List α}(o:Own enc sz k h a l):bW .slice a h'=some (.int .i64 (l.length:Int)):=by
 cases o<;>rfl
theorem Own.ext{l:List α}(o:Own enc sz k h a l)(hx:bu h h'):Own enc sz k h' a l:=by
 cases o with
 |nil=>exact .nil
 |row b l h1 h2 h3=>exact .row b l h1 (Nat.lt_of_lt_of_le h2 hx.next) (by rw [hx.get b h2];exact h3)
theorem Own.get{l:List α}(o:Own enc sz k h a l)(he:∀ x,(enc x).length=sz){v:α}(hv:l[i]?=some v) :
  ∃ b,k<=b/\b<h.next/\(∀ q:IntKind,dH sz a (.int q (i:Int))=some (.ptr b (i*sz)))/\ag (some sz) (.ptr b (i*sz)) h=some (.agg (enc v))/\∀ m,m<sz->ag none (.ptr b (i*sz+m)) h=(enc v)[m]?:=by
 cases o with
 |nil=>simp at hv
 |row b l h1 h2 h3=>
  have hi:=(jJ.1 hv).1;refine ⟨b,h1,h2,fun q=>by simp [dH,asNat,hi],?_,fun m hm=>by rw [aj h3,uK,pQ he l i m v hv hm]⟩;rw [aj h3];have hp:=nL he l i v hv;simp only [jl]
  have hlen:i*sz+sz<=(l.flatMap enc).length:=by
   rw [fX he];have:(i+1)*sz<=l.length*sz:=mul_le_mul_right sz hi;rw [succ_mul] at this;exact this
  rw [if_pos (by simpa using hlen),hp]
section
variable {α:Type} {enc:α->List AV} {sz k:Nat}
structure Row (enc:α->List AV) (sz:Nat) (h:Heap) (x:AV) (l:List α):Prop where
 len:lP x=some l.length
 cells:iz sz l.length x h=some (l.flatMap enc)
theorem FW(he:∀ x,(enc x).length=sz):∀ (l:List α) (i:Nat),(l.flatMap enc).take (i*sz)=(l.take i).flatMap enc
 |[],i=>by simp
 |x :: l,0=>by simp
 |x :: l,i+1=>by
  rw [flatMap_cons,take_succ_cons,flatMap_cons,take_append,he,succ_mul,Nat.add_sub_cancel,FW he l i,kC (by rw [he];omega)]
theorem FX(he:∀ x,(enc x).length=sz):∀ (l:List α) (i:Nat),(l.flatMap enc).drop (i*sz)=(l.drop i).flatMap enc
 |[],i=>by simp
 |x :: l,0=>by simp
 |x :: l,i+1=>by
  rw [flatMap_cons,drop_succ_cons,drop_append,he,succ_mul,Nat.add_sub_cancel,FX he l i,drop_of_length_le (by rw [he];omega),nil_append]
theorem Own.TI{l:List α}(o:Own enc sz k h a l)(he:∀ x,(enc x).length=sz)(hi:i<=l.length) :
  ∃ x,(∀ q:IntKind,iW (some sz) a none (some (.int q (i:Int)))=some x)/\∀ h',bu h h'->Row enc sz h' x (l.take i):=by
 cases o with
 |nil=>simp at hi;subst hi;exact ⟨.ax,fun q=>by simp [iW,lP,pZ,asNat],fun h' _=>⟨rfl,rfl⟩⟩
 |row b l h1 h2 h3=>
  refine ⟨.slice b 0 i sz,fun q=>by simp [iW,lP,pZ,asNat,hi],fun h' hx=>⟨by simp [lP,Nat.min_eq_left hi],?_⟩⟩;have h3':h'.get b=some (.cells (l.flatMap enc)):=by rw [hx.get b h2];exact h3
  have hl:(l.flatMap enc).length=l.length*sz:=fX he l;have hm:(l.take i).length=i:=by rw [length_take,Nat.min_eq_left hi]
  simp only [iz,h3',if_true,Nat.zero_add,hl,hm,drop_zero];rw [if_pos (mul_le_mul_right sz hi),FW he]
theorem Own.TJ{l:List α}(o:Own enc sz k h a l)(he:∀ x,(enc x).length=sz)(hi:i<=l.length) :
  ∃ x,(∀ q:IntKind,iW (some sz) a (some (.int q (i:Int))) none=some x)/\∀ h',bu h h'->Row enc sz h' x (l.drop i):=by
 cases o with
 |nil=>simp at hi;subst hi;exact ⟨.ax,fun q=>by simp [iW,lP,pZ,asNat],fun h' _=>⟨rfl,rfl⟩⟩
 |row b l h1 h2 h3=>
  refine ⟨.slice b (i*sz) (l.length-i) sz,fun q=>by simp [iW,lP,pZ,asNat,hi],fun h' hx=>⟨by simp [lP],?_⟩⟩;have h3':h'.get b=some (.cells (l.flatMap enc)):=by rw [hx.get b h2];exact h3
  have hl:(l.flatMap enc).length=l.length*sz:=fX he l;have hm:(l.drop i).length=l.length-i:=by rw [length_drop]
  simp only [iz,h3',if_true,hl,hm];have hle:i*sz+(l.length-i)*sz<=l.length*sz:=by rw [<- Nat.add_mul];exact mul_le_mul_right sz (by omega)
  rw [if_pos hle,FX he,kC];rw [fX he,hm];exact dL _
theorem tP(h1:∀ x,bw (enc x)=true):∀ l:List α,bw (l.flatMap enc)=true
 |[]=>rfl
 |x :: l=>by
  have app:∀ a b:List AV,bw a=true->bw b=true->bw (a++b)=true:=by
   intro a b ha hb
   induction a with
   |nil=>exact hb
   |cons y a ih=>
    simp only [bw,cons_append,and_eq_true] at ha ⊢;exact ⟨ha.1,ih ha.2⟩
  rw [flatMap_cons];exact app _ _ (h1 x) (tP h1 l)
def cD:AV->Option Nat
 |.slice b _ _ _=>some b
 |_=>none
theorem Own.append{x:AV}{l m:List α}(o:Own enc sz k h a l)(he:∀ x,(enc x).length=sz)(h1:∀ x,bw (enc x)=true)(r:Row enc sz h x m)(hk:k<=h.next){bytes:Nat}(hroom:(l.length+m.length)*bytes<=cI) :
  ∃ a' h',b7 sz bytes a x h=some (a',h')/\Own enc sz k h' a' (l++m)/\(∀ c,c<h.next->cD a≠some c->h'.get c=h.get c)/\h.next<=h'.next/\(m≠[]->∀ c,cD a'=some c->h.next<=c):=by
 cases o with
 |nil=>
  rw [length_nil,Nat.zero_add] at hroom
  cases m with
  |nil=>
   refine ⟨.ax,h,?_,.nil,fun _ _ _=>rfl,dL _,fun h=>absurd rfl h⟩;have hc:=r.cells;have hl:=r.len;simp only [length_nil] at hc hl;simp [b7,hl,hc]
  |cons y m=>
   refine ⟨.slice h.next 0 (y :: m).length sz,h.alloc (.cells ((y :: m).flatMap enc)),?_,.row _ _ hk (lt_succ_self _) (aA _ _),fun c hc _=>by rw [Heap.aV,if_neg (by omega)],le_succ _,fun _ c hc=>by cases hc;exact dL _⟩;have h0:¬ (y :: m).length=0:=by simp
   simp only [b7,r.len,r.cells,if_neg h0];rw [if_pos (by rw [and_eq_true];exact ⟨fE hroom,tP h1 _⟩)]
 |row b l hb1 hb2 hb3=>
  cases m with
  |nil=>
   rw [append_nil];refine ⟨.slice b 0 l.length sz,h,?_,.row b l hb1 hb2 hb3,fun _ _ _=>rfl,dL _,fun h=>absurd rfl h⟩;have hc:=r.cells;have hl:=r.len;simp only [length_nil] at hc hl;simp [b7,hl,hc]
  |cons y m=>
   have h0:¬ (y :: m).length=0:=by simp
   have hl:(l.flatMap enc).length=l.length*sz:=fX he l;refine ⟨.slice h.next 0 (l++y :: m).length sz,(h.set b .dead).alloc (.cells ((l++y :: m).flatMap enc)),?_,.row _ _ hk ?_ ?_,fun c hc hne=>?_,?_,fun _ c hc=>by cases hc;exact dL _⟩
   ·simp only [b7,r.len,r.cells,if_neg h0,if_true,hb3,drop_zero,Nat.zero_add];rw [if_pos (by rw [and_eq_true,and_eq_true];exact ⟨⟨fE hroom,tP h1 _⟩,fE (by omega)⟩),<- hl,take_length,flatMap_append,length_append]
   ·rw [Heap.aM,Heap.bl];omega
   ·have:=aA (h.set b .dead) (.cells ((l++y :: m).flatMap enc))
    rwa [Heap.bl] at this
   ·rw [Heap.aV,Heap.bl,if_neg (by omega),Heap.aK,if_neg (fun e=>hne (by rw [e];rfl))]
   ·rw [Heap.aM,Heap.bl];omega
end
theorem oQ(s:b6):bw (encS s)=true:=rfl
def strLt(a b:b6):Bool:=Op.bytesLess a b
def eM:List b6->b6->List b6
 |[],s=>[s]
 |x :: l,s=>if strLt x s=true then x :: eM l s else if x=s then x :: l else s :: x :: l
theorem TK(a b:b6):aG .lss (.str a) (.str b)=some (.bool (strLt a b)):=by simp [aG,strLt]
theorem rM(a b:b6):(a==b)=decide (a=b):=by
 by_cases h:a=b
 ·subst h;simp
 ·rw [eT h];simp [h]
theorem I5{x:b6}(hx:l[i]?=some x):l.take i++eM (l.drop i) s=if strLt x s=true then l.take (i+1)++eM (l.drop (i+1)) s else if x=s then l else l.take i++(s :: l.drop i):=by
 have h1:=(jJ.1 hx).1
 have hd:l.drop i=x :: l.drop (i+1):=by
  rw [drop_eq_getElem_cons h1];rw [ep h1] at hx;cases hx;rfl
 rw [hd,eM];split
 ·rw [take_add_one,hx];simp
 ·split
  ·rw [<- hd,take_append_drop]
  ·rfl
theorem Own.ge{enc:α->List AV}{l:List α}(o:Own enc sz k h a l){c:Nat}(hc:cD a=some c):k<=c:=by
 cases o with
 |nil=>cases hc
 |row b l h1 _ _=>cases hc;exact h1
theorem Own.Dl{enc:α->List AV}{j:Nat}{l:List α}(o:Own enc sz k h a l)(hj:j<=k):Own enc sz j h a l:=by
 cases o with
 |nil=>exact .nil
 |row b l h1 h2 h3=>exact .row b l (Nat.le_trans hj h1) h2 h3
theorem er{k:Nat}{h:Heap}{a:AV}{l:List b6}{s:b6}(o:Own encS 1 k h a l)(hk:k<=h.next)(hl:l.length<=100000){K:Out->Heap->Bool}
  (hK:∀ a' h',bu h h'->Own encS 1 k h' a' (eM l s)->K (.ret a') h'=true):Sem TP 79 [a,.str s] h K:=by
 have hbig:l.length<=cN:=by unfold cN;omega
 refine F.zA ?_;rw [F.Ba]
 have app:∀ i,i<=l.length->eM l s=l.take i++(s :: l.drop i)->∀ e:Env,e 0=a->e 1 = .str s->e 5 = .int .i64 (i:Int) ->
   (af (gd [] [] []) fun c11=>
    af (iW (some 1) (e 0) none (some (e 5))) fun x12=>
    af (gd [(.str [])] [(0,1)] [(e 1)]) fun c13=>
    af (iW (some 1) (e 0) (some (e 5)) none) fun x14=>
    cY (b7 1 16 (.slice (Heap.next h) 0 0 1) x12 (Heap.alloc (Heap.alloc h (.cells c11)) (.cells c13))) fun x15 h16=>
    cY (b7 1 16 x15 (.slice (Heap.next (Heap.alloc h (.cells c11))) 0 1 1) h16) fun x17 h18=>
    cY (b7 1 16 x17 x14 h18) fun x19 uV=>
    K (.ret x19) uV)=true:=by
  intro i hi he e e0 e1 e5;obtain ⟨x12,aeh,r12⟩:=o.TI iE hi;obtain ⟨x14,aei,r14⟩:=o.TJ iE hi;rw [show gd [] [] []=some [] from rfl];simp only [aq,e0,e1,e5,aeh,aei];rw [show gd [(.str [])] [(0,1)] [.str s]=some [.str s] from rfl];simp only [aq];have jO:bu h (Heap.alloc (Heap.alloc h (.cells [])) (.cells [.str s])):=(bu.alloc _ _).trans (bu.alloc _ _)
  have g0:(Heap.alloc (Heap.alloc h (.cells [])) (.cells [.str s])).get h.next=some (.cells []):=by
   rw [Heap.aV,Heap.aM,if_neg (by omega)];exact aA _ _
  have g1:(Heap.alloc (Heap.alloc h (.cells [])) (.cells [.str s])).get (h.next+1)=some (.cells [.str s]):=aA _ _;have gn:(Heap.alloc (Heap.alloc h (.cells [])) (.cells [.str s])).next=h.next+2:=rfl
  rw [Heap.aM];generalize (Heap.alloc (Heap.alloc h (.cells [])) (.cells [.str s]))=H at jO g0 g1 gn ⊢;have o0:Own encS 1 h.next H (.slice h.next 0 0 1) ([]:List b6):=.row h.next [] (dL _) (by omega) g0
  have hm:cI=140737488355328:=rfl;have lt:(l.take i).length=i:=by rw [length_take,Nat.min_eq_left hi]
  have ld:(l.drop i).length=l.length-i:=length_drop;obtain ⟨a1,h1,p1,o1,f1,n1,_⟩:=o0.append iE oQ (r12 H jO) (by omega) (bytes:=16) (by rw [hm,lt,length_nil];omega);simp only [p1,je];have q1:h1.get (h.next+1)=some (.cells [.str s]):=by rw [f1 _ (by omega) (by simp [cD])];exact g1
  have rs:Row encS 1 h1 (.slice (h.next+1) 0 1 1) [s]:=⟨rfl,by simp [iz,q1,encS]⟩
  have e1x:bu h h1:=⟨by have:=jO.next;omega,fun c hc=>by rw [f1 c (by omega) (by simp [cD];omega)];exact jO.get c hc⟩
  obtain ⟨a2,h2,p2,o2,f2,n2,_⟩:=o1.append iE oQ rs (by omega) (bytes:=16) (by rw [hm,nil_append,lt];simp;omega);simp only [p2,je];have e2x:bu h h2:=⟨by have:=e1x.next;omega,fun c hc=>by rw [f2 c (by have:=e1x.next;omega) (fun hb=>by have:=o1.ge hb;omega)];exact e1x.get c hc⟩
  obtain ⟨a3,h3,p3,o3,f3,n3,_⟩:=o2.append iE oQ (r14 h2 e2x) (by have:=e2x.next;omega) (bytes:=16) (by rw [hm,ld,nil_append,length_append,lt];simp;omega);simp only [p3,je];have e3x:bu h h3:=⟨by have:=e2x.next;omega,fun c hc=>by rw [f3 c (by have:=e2x.next;omega) (fun hb=>by have:=o2.ge hb;omega)];exact e2x.get c hc⟩
  refine hK a3 h3 e3x ?_;rw [he];have:=o3.Dl hk;rw [nil_append,append_assoc] at this;exact this
 have get:∀ (i:Nat) (x:b6),l[i]?=some x->∃ b,(∀ q:IntKind,dH 1 a (.int q (i:Int))=some (.ptr b (i*1)))/\ag none (.ptr b (i*1)) h=some (.str x):=fun i x hx=>by
  obtain ⟨b,_,_,h3,_,h5⟩:=o.get iE hx;exact ⟨b,h3,by have:=h5 0 (by omega);rw [Nat.add_zero] at this;rw [this];rfl⟩
 refine aE 0 l.length (zero_le _) (fun i e h'=>h'=h/\e 0=a/\e 1 = .str s/\e 5 = .int .i64 (i:Int)/\eM l s=l.take i++eM (l.drop i) s) ⟨rfl,rfl,rfl,rfl,rfl⟩ ?_ ?_
 ·rintro i e h' _ hi ⟨rfl,e0,e1,e5,ht⟩ K' hn hx hr hp;have hv:l[i]?=some l[i]:=ep hi;generalize l[i]=x at hv;obtain ⟨b,g1,g2⟩:=get i x hv;rw [I5 hv] at ht;rw [F.er.aT];simp only [e0,e1,e5,o.len,aR,reduceAdd,reduceEqDiff,reduceIte,bh hi,g1,g2,TK]
  cases hlt:strLt x s with
  |true=>
   rw [if_pos hlt] at ht;simp only [aL,aI hi hbig,aq];exact hn _ _ ⟨rfl,e0,e1,rfl,ht⟩
  |false=>
   rw [if_neg (by rw [hlt];decide)] at ht;simp only [aJ];rw [hx,F.er.aF];simp only [aR,reduceAdd,reduceEqDiff,reduceIte,e0,e1,e5,o.len,bh hi,g1,g2,aL,rM];by_cases RA:x=s
   ·rw [if_pos RA] at ht;simp only [fE RA,aL];exact hK _ _ (bu.refl _) (by rw [ht];exact o)
   ·rw [if_neg RA] at ht;simp only [eT RA,aJ];have:=app i (Nat.le_of_lt hi) ht e e0 e1 e5;simp only [e0,e1,e5] at this;exact this
 ·rintro e h' ⟨rfl,e0,e1,e5,ht⟩ K' hx;rw [F.er.aT];simp only [e0,e5,o.len,aR,reduceAdd,reduceEqDiff,reduceIte,aX];rw [hx,F.er.aF];simp only [aR,reduceAdd,reduceEqDiff,reduceIte,e0,e1,e5,o.len,aX,aJ];have:=app l.length (dL _) (by rw [ht,drop_of_length_le (dL _)];rfl) e e0 e1 e5;simp only [e0,e1,e5] at this;exact this
structure jY (es:List Entry) (ck:Nat):Prop where
 nodup:(es.map (·.2.2)).Nodup
 lt:∀ e ∈ es,e.2.2<ck
theorem jY.nil(ck:Nat):jY [] ck:=⟨nodup_nil,fun _ h=>by cases h⟩
theorem jY.push(b:jY es ck)(k v:AV):jY (es++[(k,v,ck)]) (ck+1):=by
 refine ⟨?_,fun e he=>?_⟩
 ·rw [map_append,nodup_append];refine ⟨b.nodup,by simp,fun a ha c hc=>?_⟩;rw [mem_map] at ha;obtain ⟨e,he,rfl⟩:=ha;have:=b.lt e he;simp at hc;omega
 ·rw [mem_append] at he;rcases he with he|he
  ·have:=b.lt e he;omega
  ·simp at he;rw [he];exact lt_succ_self _
theorem I6(es:List Entry)(i:Nat)(v:AV):(fh es i v).map (·.2.2)=es.map (·.2.2):=by
 unfold fh
 cases h:es[i]? with
 |none=>rfl
 |some e=>
  simp only [map_set];apply ext_getElem?;intro j;by_cases hj:i=j
  ·subst hj;have hi:=(jJ.1 h).1;rw [getElem?_set_self (by simpa using hi),getElem?_map,h];rfl
  ·rw [getElem?_set_ne hj]
theorem jY.set(b:jY es ck)(i:Nat)(v:AV):jY (fh es i v) ck:=by
 refine ⟨by rw [I6];exact b.nodup,fun e he=>?_⟩;have:e.2.2 ∈ (fh es i v).map (·.2.2):=List.mem_map_of_mem he;rw [I6,mem_map] at this;obtain ⟨e',Ym,h⟩:=this;rw [<- h];exact b.lt e' Ym
theorem wj{d:TypeDesc}{xT:List Entry}{G4:Nat}{k v:AV}(hb:h.get b=some (.map es ck))(hB:jY es ck)(hu:eU d (.map b) k v h=some h')(hg:h'.get b=some (.map xT G4)):jY xT G4:=by
 simp only [eU,hb] at hu;split at hu
 ·cases hu;rw [Heap.aK,if_pos rfl] at hg;cases hg;exact hB.set _ _
 ·cases hu;rw [Heap.aK,if_pos rfl] at hg;cases hg;exact hB.push k v
 ·cases hu
abbrev mU:=List (b6×AV)
def mU.find(m:mU)(k:b6):Option AV:=(List.find? (fun p=>k==p.1) m).map (·.2)
def mU.rD:mU->b6->AV->mU
 |[],k,v=>[(k,v)]
 |p :: m,k,v=>if k==p.1 then (p.1,v) :: m else p :: mU.rD m k v
def tQ:List Entry->mU->Prop
 |[],[]=>True
 |e :: es,p :: m=>e.1 = .str p.1/\e.2.1=p.2/\tQ es m
 |_,_=>False
theorem tQ.jF{k:b6}:∀ {es:List Entry} {m:mU} (i:Nat),tQ es m->∃ r,jF .string (.str k) es i=some r/\match r with
  |none=>m.find k=none
  |some (j,v)=>∃ n,j=i+n/\m.find k=some v/\∀ w,tQ (fh es n w) (m.rD k w)
 |[],[],i,_=>⟨none,rfl,rfl⟩
 |e :: es,p :: m,i,⟨h1,h2,h3⟩=>by
  obtain ⟨ek,ev,en⟩:=e;simp only at h1 h2;subst h1;subst h2;by_cases hk:k=p.1
  ·subst hk;refine ⟨some (i,p.2),by simp [Go.AM.jF,vU],0,rfl,by simp [mU.find],fun w=>?_⟩;simp [fh,tQ,mU.rD,h3]
  ·obtain ⟨r,hr,hm⟩:=tQ.jF (k:=k) (i+1) h3;have Wf:(k==p.1)=false:=by simpa using hk
   refine ⟨r,by simp only [Go.AM.jF,vU,Wf,hr],?_⟩
   cases r with
   |none=>simpa [mU.find,hk] using hm
   |some jv=>
    obtain ⟨n,a,b,e⟩:=hm;refine ⟨n+1,by omega,by simpa [mU.find,hk] using b,fun w=>?_⟩;have:=e w;simp only [fh,getElem?_cons_succ,mU.rD,Wf] at this ⊢;split at this<;>simp_all [tQ]
theorem tQ.append{m:mU}(h:tQ es m){k:b6}(hk:m.find k=none)(v:AV)(n:Nat):tQ (es++[(.str k,v,n)]) (m.rD k v):=by
 induction es generalizing m with
 |nil=>cases m with
  |nil=>simp [tQ,mU.rD]
  |cons p m=>exact h.elim
 |cons e es ih=>cases m with
  |nil=>exact h.elim
  |cons p m=>
   obtain ⟨h1,h2,h3⟩:=h;have hne:k≠p.1:=fun e=>by subst e;simp [mU.find] at hk
   have hk':mU.find m k=none:=by simpa [mU.find,hne] using hk
   have:=ih h3 hk';simp only [cons_append,mU.rD];rw [if_neg (by simpa using hne)];exact ⟨h1,h2,this⟩
theorem tT(o:Own encS 1 k h a l){x:b6}(hx:l[i]?=some x) :
  ∃ b,b<h.next/\(∀ q:IntKind,dH 1 a (.int q (i:Int))=some (.ptr b (i*1)))/\ag none (.ptr b (i*1)) h=some (.str x):=by
 obtain ⟨b,_,h2,h3,_,h5⟩:=o.get iE hx;exact ⟨b,h2,h3,by have:=h5 0 (by omega);rw [Nat.add_zero] at this;rw [this];rfl⟩
theorem yI{p:α->Bool}{l:List α}{a:α}(ha:l[i]?=some a)(ht:(l.take i).any p=false)(hp:p a=false):(l.take (i+1)).any p=false:=by
 rw [take_add_one,ha];simp [ht,hp]
theorem dx{k:Nat}{h:Heap}{a:AV}{l:List b6}{s:b6}(o:Own encS 1 k h a l)(hl:l.length<=cN){K:Out->Heap->Bool}(hK:K (.ret (.bool (l.any fun x=>x==s))) h=true):Sem TP 86 [a,.str s] h K:=by
 refine F.r8 ?_;rw [F.tC];refine aE 0 l.length (zero_le _) (fun i e h'=>h'=h/\e 0=a/\e 1 = .str s/\e 5 = .int .i64 (i:Int)/\((l.take i).any fun x=>x==s)=false) ⟨rfl,rfl,rfl,rfl,rfl⟩ ?_ ?_
 ·rintro i e h' _ hi ⟨rfl,e0,e1,e5,ht⟩ K' hn hx hr hp;have hv:l[i]?=some l[i]:=ep hi;generalize l[i]=x at hv;obtain ⟨b,_,g1,g2⟩:=tT o hv;rw [F.dx.aT];simp only [e0,e1,e5,o.len,aR,reduceAdd,reduceEqDiff,reduceIte,bh hi,g1,g2]
  cases hq:x==s with
  |true=>
   simp only [aL];rw [hr,F.dx.bB];simp only [bO,reduceEqDiff,reduceIte];rw [List.any_eq_true.2 ⟨x,ig hv,hq⟩] at hK;exact hK
  |false=>
   simp only [aJ,aI hi hl,aq];exact hn _ _ ⟨rfl,e0,e1,rfl,yI hv ht hq⟩
 ·rintro e h' ⟨rfl,e0,e1,e5,ht⟩ K' hx;rw [F.dx.aT];simp only [e0,e5,o.len,aR,reduceAdd,reduceEqDiff,reduceIte,aX];rw [hx,F.dx.aF];rw [kC (dL _)] at ht;rw [ht] at hK;exact hK
theorem Own.push{enc:α->List AV}{l:List α}(o:Own enc sz k h a l)(he:∀ x,(enc x).length=sz)(h1:∀ x,bw (enc x)=true)(hk:k<=h.next){bytes:Nat}(hroom:(l.length+1)*bytes<=cI)(v:α) :
  ∃ a' h',b7 sz bytes a (.slice h.next 0 1 sz) (h.alloc (.cells (enc v)))=some (a',h')/\Own enc sz k h' a' (l++[v])/\(∀ c,c<h.next->cD a≠some c->h'.get c=h.get c)/\h.next<=h'.next/\(∀ h0,bu h0 h->h0.next<=k->bu h0 h')/\∀ c,cD a'=some c->h.next<=c:=by
 have g:=aA h (.cells (enc v));have hn:(h.alloc (.cells (enc v))).next=h.next+1:=Heap.aM h _
 have hx:bu h (h.alloc (.cells (enc v))):=bu.alloc _ _
 have r:Row enc sz (h.alloc (.cells (enc v))) (.slice h.next 0 1 sz) [v]:=by
  refine ⟨rfl,?_⟩;have hl:(enc v).length=sz:=he v;simp only [iz,g,if_true,length_singleton,Nat.one_mul,Nat.zero_add,hl,dL,drop_zero];rw [<- hl,take_length];simp
 obtain ⟨a',h',p,o',f,n,hf⟩:=(o.ext hx).append he h1 r (by omega) (bytes:=bytes) (by simpa using hroom);have f':∀ c,c<h.next->cD a≠some c->h'.get c=h.get c:=fun c hc hb=>by rw [f c (by omega) hb];exact hx.get c hc
 refine ⟨a',h',p,o',f',by omega,fun h0 e0 hk0=>⟨by have:=e0.next;omega,fun c hc=>?_⟩,fun c hc=>by have:=hf (by simp) c hc;omega⟩;rw [f' c (by have:=e0.next;omega) (fun hb=>by have:=o.ge hb;omega)];exact e0.get c hc
def nB(y:b6×Int):List AV:=[.str y.1,.int .i64 y.2]
theorem oR(y:b6×Int):(nB y).length=2:=rfl
theorem P7(s:b6)(n:Int):iw [.str [],.int .i64 0] [(0,1),(1,1)] [.str s,.int .i64 n]=some (.agg (nB (s,n))):=rfl
theorem P8(y:b6×Int):gd [.str [],.int .i64 0] [(0,2)] [.agg (nB y)]=some (nB y):=rfl
theorem Own.K7{enc:α->List AV}{l:List α}(o:Own enc sz k h a l)(hf:∀ v,∀ x ∈ enc v,Fz true h x x):∃ x:Sl α,x.l=l/\Fz true h a (an enc sz x):=by
 cases o with
 |nil=>exact ⟨none,rfl,.dO rfl⟩
 |row b l h1 h2 h3=>
  refine ⟨some l,rfl,.slice b 0 l.length sz _ _ h3 rfl fun i x y hx hy=>?_⟩;rw [hx] at hy;cases hy;have:=ig hx;rw [mem_flatMap] at this;obtain ⟨v,hv,R4⟩:=this;exact hf v x R4
theorem Own.kL{enc:α->List AV}{l:List α}(o:Own enc sz k h a l){d:Nat}(hd:d<k)(x:j5):Own enc sz k (h.set d x) a l:=by
 cases o with
 |nil=>exact .nil
 |row b _ w1 w2 w3=>exact .row b l w1 (by rw [Heap.bl];exact w2) (by rw [Heap.aK,if_neg (by omega)];exact w3)
theorem uW(m:eF)(k j:b6)(v:Int):(m.rD k v).find j=if j=k then some v else m.find j:=by
 induction m with
 |nil=>
  simp only [eF.rD,eF.find,find?_cons,find?_nil];by_cases h:j=k
  ·subst h;simp
  ·have:(j==k)=false:=by simpa using h
   rw [this,if_neg h]
 |cons p m ih=>
  simp only [eF.rD];by_cases hk:k=p.1
  ·rw [if_pos (by simpa using hk)];subst hk;simp only [eF.find,find?_cons];by_cases h:j=p.1
   ·subst h;simp
   ·have:(j==p.1)=false:=by simpa using h
    rw [this,if_neg h]
  ·rw [if_neg (by simpa using hk)];simp only [eF.find,find?_cons] at ih ⊢;by_cases h:j=p.1
   ·subst h;simp only [beq_self_eq_true,map_some];rw [if_neg (Ne.symm hk)]
   ·have:(j==p.1)=false:=by simpa using h
    rw [this];exact ih
theorem I7(m:eF)(k:b6)(v:Int):(m.rD k v).map (·.1)=if k ∈ m.map (·.1) then m.map (·.1) else m.map (·.1)++[k]:=by
 induction m with
 |nil=>simp [eF.rD]
 |cons p m ih=>
  simp only [eF.rD];by_cases hk:k=p.1
  ·rw [if_pos (by simpa using hk)];subst hk;simp
  ·rw [if_neg (by simpa using hk),map_cons,ih];by_cases hm:k ∈ m.map (·.1)
   ·rw [if_pos hm,if_pos (by rw [map_cons];exact mem_cons_of_mem _ hm)];rfl
   ·rw [if_neg hm,if_neg (by rw [map_cons,mem_cons];exact fun h=>h.elim hk hm)];rfl
theorem FY(hm:(m.map (·.1)).Nodup)(k:b6)(v:Int):((m.rD k v).map (·.1)).Nodup:=by
 rw [I7];split
 ·exact hm
 ·rename_i h;rw [nodup_append];exact ⟨hm,by simp,fun a ha b hb=>by simp at hb;subst hb;exact fun e=>h (e▸ha)⟩
theorem qH{k:b6}(h:m.find k=some v):(k,v) ∈ m:=by
 unfold eF.find at h;obtain ⟨p,hp,rfl⟩:=map_eq_some_iff.1 h;have h1:=mem_of_find?_eq_some hp;have h2:=find?_some hp;simp only [beq_iff_eq] at h2;subst h2;exact h1
theorem uX(hm:(m.map (·.1)).Nodup){p:b6×Int}(hp:p ∈ m):m.find p.1=some p.2:=by
 induction m with
 |nil=>cases hp
 |cons q m ih=>
  rw [map_cons,nodup_cons] at hm;simp only [eF.find,find?_cons];rcases mem_cons.1 hp with rfl|hp
  ·simp
  ·have:(p.1==q.1)=false:=by
    simp only [beq_eq_false_iff_ne];exact fun e=>hm.1 (e▸List.mem_map_of_mem hp)
   rw [this];exact ih hm.2 hp
theorem ki.mem:∀ {es:List Entry} {m:eF},ki es m->∀ e ∈ es,∃ p ∈ m,e.1 = .str p.1/\e.2.1 = .int .i64 p.2
 |[],_,_,e,he=>by cases he
 |e0 :: es,[],h,_,_=>h.elim
 |e0 :: es,p :: m,⟨h1,h2,h3⟩,e,he=>by
  rcases mem_cons.1 he with rfl|he
  ·exact ⟨p,mem_cons_self,h1,h2⟩
  ·obtain ⟨q,hq,r⟩:=ki.mem h3 e he;exact ⟨q,mem_cons_of_mem _ hq,r⟩
theorem mV{z v:AV}(h1:v.dz = [v])(hv:bw [v]=true):∃ h',aS 1 (.ptr h.next 0) v (h.alloc (.cells [z]))=some h'/\h'.get h.next=some (.cells [v])/\(∀ b,b≠h.next->h'.get b=h.get b)/\h'.next=h.next+1:=by
 refine ⟨_,by rw [cq (n:=1) (aA _ _) (by rw [h1];rfl) (by rw [h1];exact hv) (by simp),h1],?_,fun b hb=>?_,by rw [Heap.bl,Heap.aM]⟩
 ·rw [Heap.aK,if_pos rfl];rfl
 ·rw [Heap.aK,if_neg hb,Heap.aV,if_neg hb]
theorem rN{x s:b6}:∀ {l:List b6},x ∈ eM l s↔x ∈ l\/x=s
 |[]=>by simp [eM]
 |a :: l=>by
  rw [eM];split
  ·rw [mem_cons,rN (l:=l),mem_cons,_root_.or_assoc]
  ·split
   ·rename_i h;subst h;rw [mem_cons];exact ⟨fun h=>.inl h,fun h=>h.elim id .inl⟩
   ·rw [mem_cons];exact Or.comm
theorem Fz.K8{old:Bool}{v r:AV}(hr:r.scalar=true)(hf:Fz old h v r):v=r:=by
 cases hf<;>first|rfl|(simp [AV.scalar] at hr)
theorem Sem.abd{P:Program}{f:FuncId}{args v8:List AV}{r:AV}(hr:r.scalar=true)(hs:Sem P f v8 Heap.empty (qh r))(hp:lQ true h args v8)(hK:K (.ret r) h=true):Sem P f args h K:=
 hs.V8 hp fun o h' ho=>by
  obtain ⟨v,rfl,hf⟩:=cw.1 ho;obtain rfl:=hf.K8 hr;exact ⟨_,_,rfl,.scalar _ hr,hK⟩
theorem yJ{old:Bool}(hb:h.get b=some (.cells (d.map iv))):Fz old h (.slice b 0 d.length 1) (an encI 1 (some d)):=by
 refine .slice b 0 d.length 1 _ _ hb (by rw [tO]) fun i x y hx hy=>?_;rw [tO,hy] at hx;cases hx;rw [<- tO,getElem?_map] at hy;obtain ⟨v,hv,rfl⟩:=map_eq_some_iff.1 hy;exact .scalar _ rfl
theorem Own.lt{enc:α->List AV}{l:List α}(o:Own enc sz k h a l){c:Nat}(hc:cD a=some c):c<h.next:=by
 cases o with
 |nil=>cases hc
 |row b l h1 h2 h3=>cases hc;exact h2
theorem Hr[BEq α][LawfulBEq α]{l m:List α}{a b:α}(ha:l[i]?=some a)(hb:m[i]?=some b):(l.drop i==m.drop i)=((a==b)&&(l.drop (i+1)==m.drop (i+1))):=by
 have h1:=(jJ.1 ha).1;have h2:=(jJ.1 hb).1;rw [drop_eq_getElem_cons h1,drop_eq_getElem_cons h2];rw [ep h1] at ha;rw [ep h2] at hb;cases ha;cases hb;rfl
theorem eD{x y:Sl Int}(hx:x.l.length<=cN){h:Heap}{K:Out->Heap->Bool}(hK:K (.ret (.bool (x.l==y.l))) h=true):Sem TP 20 [an encI 1 x,an encI 1 y] h K:=by
 refine F.A9 ?_;rw [F.CO];simp only [aR,reduceAdd,reduceEqDiff,reduceIte,cA];by_cases hl:x.l.length=y.l.length
 ·simp only [fE (by omega:(x.l.length:Int)=(y.l.length:Int)),Bool.not_true,aJ];refine aE 0 x.l.length (zero_le _) (fun i e h'=>h'=h/\e 0=an encI 1 x/\e 1=an encI 1 y/\e 5 = .int .i64 (i:Int)/\(x.l==y.l)=(x.l.drop i==y.l.drop i)) ⟨rfl,rfl,rfl,rfl,rfl⟩ ?_ ?_
  ·rintro i e h' _ hi ⟨rfl,e0,e1,e5,ht⟩ K' hn fK hr hp;have BR:i<y.l.length:=by omega
   have hv:x.l[i]?=some x.l[i]:=ep hi;have hw:y.l[i]?=some y.l[i]:=ep BR;rw [Hr hv hw] at ht;generalize x.l[i]=a at hv ht;generalize y.l[i]=b at hw ht;rw [F.eD.aT];simp only [e0,e1,e5,aR,reduceAdd,reduceEqDiff,reduceIte,bh hi,aW x hi,aW y BR,ja hv,ja hw]
   cases hq:a==b with
   |false=>
    simp only [Bool.not_false,aL];rw [hr,F.eD.bB];simp only [bO,reduceEqDiff,reduceIte];rw [ht,hq] at hK;exact hK
   |true=>
    simp only [Bool.not_true,aJ,aI hi hx,aq];exact hn _ _ ⟨rfl,e0,e1,rfl,by rw [ht,hq,Bool.true_and]⟩
  ·rintro e h' ⟨rfl,e0,e1,e5,ht⟩ K' fK;rw [F.eD.aT];simp only [e0,e5,aR,reduceAdd,reduceEqDiff,reduceIte,aX];rw [fK,F.eD.aF];rw [drop_of_length_le (dL _),drop_of_length_le (by omega)] at ht;rw [ht] at hK;exact hK
 ·simp only [eT (by omega:¬ (x.l.length:Int)=(y.l.length:Int)),Bool.not_false,aL]
  have:(x.l==y.l)=false:=by
   simp only [beq_eq_false_iff_ne];exact fun e=>hl (congrArg List.length e)
  rw [this] at hK;exact hK
theorem nY:∀ a:b6,strLt a a=false
 |[]=>rfl
 |x :: a=>by
  have:=nY a;unfold strLt at this ⊢;simp [Op.bytesLess,this]
theorem tU:∀ {a b c:b6},strLt a b=true->strLt b c=true->strLt a c=true
 |_,[],_,h,_=>by unfold strLt at h;simp [Op.bytesLess] at h
 |_,_ :: _,[],_,h=>by unfold strLt at h;simp [Op.bytesLess] at h
 |[],_ :: _,_ :: _,_,_=>rfl
 |x :: a,y :: b,z :: c,h1,h2=>by
  have ih:=@tU a b c;unfold strLt at h1 h2 ih ⊢;simp only [Op.bytesLess,or_eq_true,decide_eq_true_eq,and_eq_true,beq_iff_eq] at h1 h2 ⊢;rcases h1 with h1|⟨rfl,h1⟩<;>rcases h2 with h2|⟨rfl,h2⟩
  ·exact .inl (UInt8.lt_trans h1 h2)
  ·exact .inl h1
  ·exact .inl h2
  ·exact .inr ⟨rfl,ih h1 h2⟩
theorem zM:∀ {a b:b6},strLt a b=false->a≠b->strLt b a=true
 |[],[],_,h=>absurd rfl h
 |[],_ :: _,h,_=>by unfold strLt at h;simp [Op.bytesLess] at h
 |_ :: _,[],_,_=>rfl
 |x :: a,y :: b,h1,h2=>by
  have ih:=@zM a b;unfold strLt at h1 ih ⊢;simp only [Op.bytesLess,or_eq_false_iff,decide_eq_false_iff_not,and_eq_false_iff,beq_eq_false_iff_ne] at h1;simp only [Op.bytesLess,or_eq_true,decide_eq_true_eq,and_eq_true,beq_iff_eq];obtain ⟨h3,h4⟩:=h1;by_cases e:x=y
  ·subst e;rcases h4 with h4|h4
   ·exact absurd rfl h4
   ·exact .inr ⟨rfl,ih h4 (fun h=>h2 (by rw [h]))⟩
  ·refine .inl ?_;rcases UInt8.lt_or_lt_of_ne e with h|h
   ·exact absurd h h3
   ·exact h
theorem WB:∀ {a b:b6},leB a b=true->a≠b->strLt a b=true:=fun {a b} h hne=>by
 cases hs:strLt a b with
 |true=>rfl
 |false=>
  exfalso
  have key:∀ {a b:b6},strLt b a=true->b<a:=by
   intro a
   induction a with
   |nil=>intro b h;unfold strLt at h;cases b<;>simp [Op.bytesLess] at h
   |cons x a ih=>
    intro b h
    cases b with
    |nil=>exact nil_lt_cons _ _
    |cons y b=>
     unfold strLt at h;simp only [Op.bytesLess,or_eq_true,decide_eq_true_eq,and_eq_true,beq_iff_eq] at h;rcases h with h|⟨rfl,h⟩
     ·exact cons_lt_cons_iff.2 (.inl h)
     ·exact cons_lt_cons_iff.2 (.inr ⟨rfl,ih h⟩)
  have h1:=key (zM hs hne);have h2:a<=b:=of_decide_eq_true h;exact absurd h1 (List.not_lt.2 h2)
def r9(l:List b6):Prop:=l.Pairwise fun a b=>strLt a b=true
theorem wk:∀ {l m:List b6},r9 l->r9 m->(∀ x,x ∈ l↔x ∈ m)->l=m
 |[],[],_,_,_=>rfl
 |[],y :: m,_,_,h=>by have:=(h y).2 mem_cons_self;cases this
 |x :: l,[],_,_,h=>by have:=(h x).1 mem_cons_self;cases this
 |x :: l,y :: m,hl,hm,h=>by
  obtain ⟨l1,l2⟩:=pairwise_cons.1 hl;obtain ⟨m1,m2⟩:=pairwise_cons.1 hm
  have Vh:x=y:=by
   rcases mem_cons.1 ((h x).1 mem_cons_self) with e|e
   ·exact e
   ·rcases mem_cons.1 ((h y).2 mem_cons_self) with e'|e'
    ·exact e'.symm
    ·have:=tU (m1 x e) (l1 y e');rw [nY] at this;cases this
  subst Vh;rw [wk l2 m2 fun z=>?_];constructor
  ·intro hz;rcases mem_cons.1 ((h z).1 (mem_cons_of_mem _ hz)) with e|e
   ·subst e;have:=l1 z hz;rw [nY] at this;cases this
   ·exact e
  ·intro hz;rcases mem_cons.1 ((h z).2 (mem_cons_of_mem _ hz)) with e|e
   ·subst e;have:=m1 z hz;rw [nY] at this;cases this
   ·exact e
theorem wm:∀ {l:List b6},r9 l->∀ s,r9 (eM l s)
 |[],_,s=>pairwise_singleton _ _
 |x :: l,h,s=>by
  obtain ⟨h1,h2⟩:=pairwise_cons.1 h;rw [eM];split
  ·rename_i hx;refine pairwise_cons.2 ⟨fun y hy=>?_,wm h2 s⟩;rcases rN.1 hy with hy|rfl
   ·exact h1 y hy
   ·exact hx
  ·rename_i hx;split
   ·exact h
   ·rename_i hne;have hsx:strLt s x=true:=zM (by simpa using hx) hne;refine pairwise_cons.2 ⟨fun y hy=>?_,h⟩;rcases mem_cons.1 hy with rfl|hy
    ·exact hsx
    ·exact tU hsx (h1 y hy)
theorem FZ{ck:Nat}:∀ {es:List Entry},(∀ e ∈ es,(∃ s,e.1 = .str s/\s.length<=1000)/\e.2.2<ck)->(es.map keyBytes).Nodup->(es.map (·.2.2)).Nodup->rG ck es=true
 |[],_,_,_=>rfl
 |e :: es,h,h1,h2=>by
  rw [map_cons,nodup_cons] at h1 h2;obtain ⟨⟨s,hs,hl⟩,hc⟩:=h e mem_cons_self;have ih:=FZ (ck:=ck) (es:=es) (fun f hf=>h f (mem_cons_of_mem _ hf)) h1.2 h2.2;have hb:ble s.length 140737488351232=true:=ble_eq_true_of_le (by omega);have Et:ble (e.2.2+1) ck=true:=ble_eq_true_of_le hc
  have lY:es.all (fun f=>!(keyBytes e==keyBytes f)&&!(Nat.beq e.2.2 f.2.2))=true:=by
   rw [List.all_eq_true];intro f hf
   have q1:(keyBytes e==keyBytes f)=false:=by
    simp only [beq_eq_false_iff_ne];exact fun q=>h1.1 (by rw [q];exact List.mem_map_of_mem hf)
   have q2:Nat.beq e.2.2 f.2.2=false:=by
    cases hq:Nat.beq e.2.2 f.2.2 with
    |false=>rfl
    |true=>exact absurd (by rw [eq_of_beq_eq_true hq];exact List.mem_map_of_mem hf) h2.1
   rw [q1,q2];rfl
  simp only [rG,hs,isStr,hb,Et,lY,ih,Bool.and_self]
theorem keys_map{M:Nat}(hK:K (.ret (.func 106 [] [.ptr h.next 0])) (h.alloc (.box (.map M)))=true):Sem TP 62 [.map M] h K:=
 qE.U5 (f:=62) (g:=MC 106) rfl hK
theorem K9{M:Nat}(hb:h.get b=some (.box (.map M)))(hM:h.get M=some (.map es ck))(lu:rG ck es=true)(hlen:es.length<=1000000)
  (hK:∀ a h',bu h h'->Own encS 1 h.next h' a (qB (es.map keyBytes))->K (.ret a) h'=true):Sem TP 61 [.func 106 [] [.ptr b 0]] h K:=by
 refine qE.U5 (f:=61) (g:=uQ 106) rfl ?_;have hl:ble (es.length*16) 140737488355328=true:=ble_eq_true_of_le (by omega)
 have h2:uQ 106 [.func 106 [] [.ptr b 0]] h K=true:=by
  simp only [uQ,hb,hM,lu,hl,Bool.true_and];rw [show Nat.beq 106 106=true from rfl,Bool.true_and];generalize qB (es.map keyBytes)=ns at hK ⊢
  cases ns with
  |nil=>exact hK _ _ (bu.refl _) .nil
  |cons k ks=>
   have e:(k :: ks).map AV.str=(k :: ks).flatMap encS:=by
    generalize (k :: ks)=l
    induction l with
    |nil=>rfl
    |cons x l ih=>rw [map_cons,flatMap_cons,ih];rfl
   refine hK _ _ (bu.alloc _ _) ?_;rw [e];exact .row _ (k :: ks) (dL _) (lt_succ_self _) (aA _ _)
 exact h2
theorem Hs(hn:l.Nodup):r9 (qB l)/\∀ x,x ∈ qB l↔x ∈ l:=by
 refine ⟨?_,fun x=>(oO l).mem_iff⟩;have h1:=rH l;have h2:(qB l).Nodup:=(oO l).nodup_iff.2 hn;unfold r9;unfold List.Nodup at h2;exact (h1.and h2).imp fun {a b} h=>WB h.1 h.2
theorem tV(hb:h.get b=some (.map es ck))(hm:ki es m)(k:b6) :
  dR .string (.int .i64 0) false (.map b) (.str k) h=some (.int .i64 ((m.find k).getD 0)):=by
 obtain ⟨r,hr,uO⟩:=ki.jF (k:=k) 0 hm;simp only [dR,lZ,hb,qu,qt,if_true,hr]
 cases r with
 |none=>simp at uO;simp [uO]
 |some jv=>
  obtain ⟨n,q,_,b,c,_⟩:=uO;obtain ⟨j,v⟩:=jv;simp only at c;subst c;simp [b]
theorem MI:∀ {es:List Entry} {m:eF},ki es m->es.map keyBytes=m.map (·.1)
 |[],[],_=>rfl
 |e :: es,p :: m,⟨h1,_,h3⟩=>by
  obtain ⟨ek,ev⟩:=e;simp only at h1;subst h1;rw [map_cons,map_cons,MI h3];rfl
end
end Go.AM
namespace Go.AM
open List Nat Bool Option
open Go Go.Proofs
noncomputable section
variable {K:Out->Heap->Bool} {h h':Heap} {hs ks o:List b6} {D:b6->Option (Nat×List Bool)} {n k M V base S b B sz j N0 N1 N4 P3 P5 P6 PL:Nat} {lv:ey.Lv} {vs:List Int} {s nm:b6} {i0 v:Int} {g ng:FuncId} {α σ:Type} {p:Nat×List Bool} {a cW lW:AV} {x xs:Sl b6} {d:List Bool} {ga gb na nb:List AV}
theorem uY{enc:α->List AV}(he:∀ a,(enc a).length=sz)(x:Sl α)(h:Heap):Row enc sz h (an enc sz x) x.l:=by
 cases x with
 |none=>exact ⟨rfl,rfl⟩
 |some l=>
  refine ⟨rfl,?_⟩;have hl:(l.flatMap enc).length=l.length*sz:=fX he l;simp only [an,iz,Sl.KS,Nat.zero_add,hl,beq_self_eq_true,dL,decide_true,Bool.and_self,if_true,drop_zero];rw [<- hl,take_length]
structure eP where
 kind:Int
 neg:Bool
 name:b6
 args:Sl b6
structure aP where
 name:b6
 args:Sl b6
 body:Sl eP
def bL(c:eP):List AV:=[.int .i64 c.kind,.bool c.neg,.str c.name,an encS 1 c.args]
def iI(nm:b6)(xs:Sl b6):List AV:=[.str nm,an encS 1 xs]
def aO(r:aP):List AV:=[.str r.name,an encS 1 r.args,an bL 4 r.body]
theorem iB(c:eP):(bL c).length=4:=rfl
theorem gE(r:aP):(aO r).length=3:=rfl
theorem xh(c:eP):AV.cL (bL c)=true:=by simp [bL,AV.cL,AV.pure,cj kg]
theorem fR(r:aP):AV.cL (aO r)=true:=by simp [aO,AV.cL,AV.pure,cj kg,cj xh]
theorem zN(nm:b6)(xs:Sl b6):bw (iI nm xs)=true:=by
 unfold iI;simp only [bw,gi,Bool.and_true];rfl
theorem iC(c:eP):bw (bL c)=true:=by
 unfold bL;simp only [bw,gi,Bool.and_true];rfl
theorem kr(r:aP):bw (aO r)=true:=by
 unfold aO;simp only [bw,gi,Bool.and_true];rfl
def eP.ok(c:eP):Prop:=c.name.length<=cN/\c.args.l.length<=cN/\∀ s ∈ c.args.l,s.length<=cN
def aP.ok(r:aP):Prop:=r.name.length<=cN/\r.args.l.length<=cN/\(∀ s ∈ r.args.l,s.length<=cN)/\r.body.l.length<=cN/\∀ c ∈ r.body.l,c.ok
theorem MJ(a b c d:AV):jl (some 2) [a,b,c,d] 2=some (.agg [c,d]):=rfl
theorem MK(a b c:AV):jl (some 2) [a,b,c] 0=some (.agg [a,b]):=rfl
theorem Ht(a b c d:AV):jl (some 4) [a,b,c,d] 0=some (.agg [a,b,c,d]):=rfl
theorem rO(a b c:AV):jl (some 3) [a,b,c] 0=some (.agg [a,b,c]):=rfl
theorem jw{i:Nat}{v:b6}(hv:x.l[i]?=some v):ag none (.dN (x.l.flatMap encS) (i*1)) h=some (.str v):=by
 rw [wP iE hv];rfl
theorem Fa(hx:x.l.length<=cN){a b:List AV}{p:b6->Bool}(hp:∀ (v:b6) (K:Out->Heap->Bool),K (.ret (.bool (p v))) h=true->Sem TP g (a++([.str v]++b)) h K)
  (hK:∀ n:Int,decide (0<=n)=x.l.any p->K (.ret (.int .i64 n)) h=true):Sem TP 184 [an encS 1 x,.func g a b] h K:=by
 refine F.kK ?_;rw [F.kT];simp only [aR,reduceAdd,reduceEqDiff,reduceIte];refine aE 0 x.l.length (zero_le _) (fun i e h'=>h'=h/\e 0=an encS 1 x/\e 1 = .func g a b/\e 7 = .int .i64 (x.l.length:Int)/\e 8 = .int .i64 (i:Int)/\(x.l.take i).any p=false) ⟨rfl,rfl,rfl,rfl,rfl,rfl⟩ ?_ ?_
 ·rintro i e h' _ hi ⟨rfl,e0,e1,e7,e8,ht⟩ K' hn fK hr Cm;have hv:x.l[i]?=some x.l[i]:=ep hi;rw [F.bz.aT];simp only [e0,e1,e7,e8,aR,reduceAdd,reduceEqDiff,reduceIte,bh hi,aW x hi,jw hv,fF];refine ah (hp _ _ ?_);simp only [aR,reduceAdd,reduceEqDiff,reduceIte]
  cases hq:p x.l[i] with
  |true=>
   simp only [aL];rw [hr,F.bz.bB];refine hK (i:Int) ?_;rw [fE (by omega:(0:Int)<=(i:Int))];exact (List.any_eq_true.2 ⟨_,ig hv,hq⟩).symm
  |false=>
   simp only [aJ,aI hi hx,aq];exact hn _ _ ⟨rfl,e0,e1,e7,rfl,by rw [take_add_one,hv,any_append,ht];simp [hq]⟩
 ·rintro e h' ⟨rfl,e0,e1,e7,e8,ht⟩ K' fK;rw [F.bz.aT];simp only [e0,e1,e7,e8,aR,reduceAdd,reduceEqDiff,reduceIte,aX];rw [fK,F.bz.aF];rw [kC (dL _)] at ht;exact hK (-1) (by rw [ht];rfl)
theorem zO(hx:x.l.length<=cN){a b:List AV}{p:b6->Bool}(hp:∀ (v:b6) (K:Out->Heap->Bool),K (.ret (.bool (p v))) h=true->Sem TP g (a++([.str v]++b)) h K)
  (hK:K (.ret (.bool (x.l.any p))) h=true):Sem TP 167 [an encS 1 x,.func g a b] h K:=by
 refine F.jM ?_;rw [F.jV];refine ah (Fa hx hp fun n hn=>?_);simp only [aR,reduceAdd,reduceEqDiff,reduceIte];rw [hn];exact hK
theorem Hu(hK:K (.ret (.bool (!ec s))) h=true):Sem TP 168 [.str s] h K:=by
 refine F.zC ?_;rw [F.Be];refine ah (dP ?_);simp only [aR,reduceAdd,reduceEqDiff,reduceIte];exact hK
theorem TL(p:α->Bool)(l:List α):(!(l.any fun x=>!p x))=l.all p:=by
 induction l with
 |nil=>rfl
 |cons a l ih=>rw [any_cons,all_cons,<- ih];cases p a<;>simp
theorem TM(p:α->Bool):∀ (l:List α) (h:l.length=2),l.all p=(p (l[0]'(by omega))&&p (l[1]'(by omega)))
 |[a,b],_=>by simp
def mI(nm:b6)(xs:List b6):Bool:=ec nm&&(decide (xs.length<=12)&&xs.all ec)
theorem Dm(hx:xs.l.length<=cN)(hK:K (.ret (.bool (mI nm xs.l))) h=true):Sem TP 138 [.agg [.str nm,an encS 1 xs]] h K:=by
 refine Sem.data (r:=.bool (mI nm xs.l)) ?_ (by simp [AV.cL,AV.pure,cj kg]) hK;clear hK;refine F.CS ?_;rw [F.EG];have g0:(Heap.alloc Heap.empty (.cells (iI nm xs))).get 0=some (.cells (iI nm xs)):=aA _ _;have hb:eZ (.agg [.str nm,an encS 1 xs])=some (iI nm xs):=cT (zN nm xs);simp only [hb,aq,bU];generalize (Heap.alloc Heap.empty (.cells (iI nm xs)))=H at g0 ⊢;have fin:∀ b:Bool,b=mI nm xs.l->qh (.bool (mI nm xs.l)) (.ret (.bool b)) H=true:=fun b hb=>by rw [hb];exact gh rfl
 simp only [aR,reduceAdd,reduceEqDiff,reduceIte,aj g0,iI];refine ah (dP ?_);simp only [aR,reduceAdd,reduceEqDiff,reduceIte]
 cases hn:ec nm with
 |false=>simp only [aJ];exact fin _ (by simp [mI,hn])
 |true=>
  simp only [aL,aR,reduceAdd,reduceEqDiff,reduceIte,aj g0,iI];by_cases I8:xs.l.length<=12
  ·simp only [fE (by omega:(xs.l.length:Int)<=12),aL,aR,reduceAdd,reduceEqDiff,reduceIte,aj g0,iI];refine ah (zO hx (p:=fun s=>!ec s) (fun v K hK=>Hu hK) ?_);simp only [aR,reduceAdd,reduceEqDiff,reduceIte];exact fin _ (by rw [TL];simp [mI,hn,I8])
  ·simp only [eT (by omega:¬ (xs.l.length:Int)<=12),aJ];exact fin _ (by simp [mI,I8])
def gK(c:eP):Bool:=if c.kind=0 then mI c.name c.args.l else if c.kind=1\/c.kind=2 then decide (c.name = [])&&(decide (c.args.l.length=2)&&c.args.l.all ec) else false
theorem fY{c:eP}(hc:c.ok){h:Heap}{K:Out->Heap->Bool}(hK:K (.ret (.bool (gK c))) h=true):Sem TP 140 [.agg [.int .i64 c.kind,.bool c.neg,.str c.name,an encS 1 c.args]] h K:=by
 refine Sem.data (r:=.bool (gK c)) ?_ (by simp [AV.cL,AV.pure,cj kg]) hK;clear hK;refine F.vE ?_;rw [F.wV];have g0:(Heap.alloc Heap.empty (.cells (bL c))).get 0=some (.cells (bL c)):=aA _ _;have hb:eZ (.agg [.int .i64 c.kind,.bool c.neg,.str c.name,an encS 1 c.args])=some (bL c):=cT (iC c);simp only [hb,aq,bU];generalize (Heap.alloc Heap.empty (.cells (bL c)))=H at g0 ⊢;have fin:∀ b:Bool,b=gK c->qh (.bool (gK c)) (.ret (.bool b)) H=true:=fun b hb=>by rw [hb];exact gh rfl
 generalize qh (.bool (gK c))=R at fin ⊢;simp only [aR,reduceAdd,reduceEqDiff,reduceIte,aj g0,bL,cA,MJ];by_cases k0:c.kind=0
 ·simp only [fE k0,aL];refine ah (Dm hc.2.1 ?_);simp only [aR,reduceAdd,reduceEqDiff,reduceIte];exact fin _ (by simp [gK,k0])
 simp only [eT k0,aJ]
 have J:∀ (e:Env) (b:Bool),e 1 = .ptr 0 0->e 10 = .bool b->(b=true↔(c.kind=1\/c.kind=2))->F.fY.J0 R ⟨e,40,[],H⟩=true:=by
  intro e b e1 kM hb;rw [F.fY.yu];simp only [e1,kM,aR,reduceAdd,reduceEqDiff,reduceIte]
  cases b with
  |false=>
   simp only [aJ];have:¬ (c.kind=1\/c.kind=2):=fun h=>by have:=hb.2 h;cases this
   exact fin _ (by simp [gK,k0,this])
  |true=>
   have hk:=hb.1 rfl;have ON:gK c=(decide (c.name = [])&&(decide (c.args.l.length=2)&&c.args.l.all ec)):=by simp only [gK,if_neg k0,if_pos hk]
   rw [ON] at fin;simp only [aL,aR,reduceAdd,reduceEqDiff,reduceIte,aj g0,bL,rM];by_cases hn:c.name = []
   ·simp only [fE hn,aL,aR,reduceAdd,reduceEqDiff,reduceIte,aj g0,bL,cA];by_cases h2:c.args.l.length=2
    ·simp only [fE (by omega:(c.args.l.length:Int)=2),aL,aR,reduceAdd,reduceEqDiff,reduceIte,aj g0,bL];have v0:c.args.l[0]?=some c.args.l[0]:=ep (by omega);have v1:c.args.l[1]?=some c.args.l[1]:=ep (by omega);have lY:c.args.l.all ec=(ec c.args.l[0]&&ec c.args.l[1]):=TM ec _ h2;have i0:=aW (enc:=encS) (sz:=1) (k:=.i64) c.args (i:=0) (by omega);have i1:=aW (enc:=encS) (sz:=1) (k:=.i64) c.args (i:=1) (by omega);have l0:=fun h=>jw (x:=c.args) v0 (h:=h);have l1:=fun h=>jw (x:=c.args) v1 (h:=h);simp only [show ((0:Nat):Int)=0 from rfl,show ((1:Nat):Int)=1 from rfl] at i0 i1;simp only [i0,i1,l0,l1,aR,reduceAdd,reduceEqDiff,reduceIte];refine ah (dP ?_);simp only [aR,reduceAdd,reduceEqDiff,reduceIte];rw [lY] at fin
     cases n0:ec c.args.l[0] with
     |false=>simp only [aJ];exact fin _ (by simp [n0])
     |true=>
      simp only [aL,aR,reduceAdd,reduceEqDiff,reduceIte,aj g0,bL,i0,i1,l0,l1];refine ah (dP ?_);simp only [aR,reduceAdd,reduceEqDiff,reduceIte];exact fin _ (by simp [n0,hn,h2])
    ·simp only [eT (by omega:¬ (c.args.l.length:Int)=2),aJ];exact fin _ (by simp [h2])
   ·simp only [eT hn,aJ];exact fin _ (by simp [hn])
 by_cases k1:c.kind=1
 ·simp only [fE k1,aL];exact J _ true rfl rfl (by simp [k1])
 ·simp only [eT k1,aJ];exact J _ (decide (c.kind=2)) rfl rfl (by simp [k1])
theorem NO{l:List b6}(o:Own encS 1 k h a l)(hl:l.length<=cN)
  (hK:∀ n:Int,decide (0<=n)=(l.any fun x=>s==x)->K (.ret (.int .i64 n)) h=true):Sem TP 145 [a,.str s] h K:=by
 refine F.iH ?_;rw [F.iQ];simp only [o.len,aR,reduceAdd,reduceEqDiff,reduceIte];refine aE 0 l.length (zero_le _) (fun i e h'=>h'=h/\e 0=a/\e 1 = .str s/\e 7 = .int .i64 (l.length:Int)/\e 8 = .int .i64 (i:Int)/\((l.take i).any fun x=>s==x)=false) ⟨rfl,rfl,rfl,rfl,rfl,rfl⟩ ?_ ?_
 ·rintro i e h' _ hi ⟨rfl,e0,e1,e7,e8,ht⟩ K' hn fK hr Cm;have hv:l[i]?=some l[i]:=ep hi;generalize l[i]=x at hv;obtain ⟨b,_,g1,g2⟩:=tT o hv;rw [F.bA.aT];simp only [e0,e1,e7,e8,aR,reduceAdd,reduceEqDiff,reduceIte,bh hi,g1,g2]
  cases hq:s==x with
  |true=>
   simp only [aL];rw [hr,F.bA.bB];refine hK (i:Int) ?_;rw [fE (by omega:(0:Int)<=(i:Int))];exact (List.any_eq_true.2 ⟨_,ig hv,hq⟩).symm
  |false=>
   simp only [aJ,aI hi hl,aq];exact hn _ _ ⟨rfl,e0,e1,e7,rfl,yI hv ht hq⟩
 ·rintro e h' ⟨rfl,e0,e1,e7,e8,ht⟩ K' fK;rw [F.bA.aT];simp only [e0,e1,e7,e8,aR,reduceAdd,reduceEqDiff,reduceIte,aX];rw [fK,F.bA.aF];rw [kC (dL _)] at ht;exact hK (-1) (by rw [ht];rfl)
theorem Hv{l:List b6}(o:Own encS 1 k h a l)(hl:l.length<=cN)
  (hK:K (.ret (.bool (l.any fun x=>s==x))) h=true):Sem TP 143 [a,.str s] h K:=by
 refine F.kV ?_;rw [F.lB];refine ah (NO o hl fun n hn=>?_);simp only [aR,reduceAdd,reduceEqDiff,reduceIte];rw [hn];exact hK
def Dp(o:List b6)(s:b6):List b6:=if (o.any fun x=>s==x)=true then o else o++[s]
def eN(o l:List b6):List b6:=l.foldl Dp o
theorem AG{l:List b6}{i:Nat}(hs:l[i]?=some s):eN o (l.take (i+1))=Dp (eN o (l.take i)) s:=by
 unfold eN;rw [take_add_one,hs];simp
theorem P9(o:List b6)(s:b6):(Dp o s).length<=o.length+1:=by
 unfold Dp;split<;>simp
theorem oS:∀ (l o:List b6),(eN o l).length<=o.length+l.length
 |[],o=>dL _
 |s :: l,o=>by
  have h1:=oS l (Dp o s);have h2:=P9 o s;show (eN (Dp o s) l).length<=_;rw [length_cons];omega
theorem tW{enc:α->List AV}{l:List α}(o:Own enc sz k h a l):a.dz = [a]/\bw [a]=true:=by
 cases o<;>exact ⟨rfl,rfl⟩
theorem NP{enc:α->List AV}{b:AV}{l:List α}(o:Own enc sz k h a l)(hV:h.get V=some (.cells [b])):aS 1 (.ptr V 0) a h=some (h.set V (.cells [a])):=by
 obtain ⟨h1,h2⟩:=tW o;rw [cq (n:=1) hV (by rw [h1];rfl) (by rw [h1];exact h2) (by simp),h1];rfl
theorem Vi(s:b6):gd [.str []] [(0,1)] [.str s]=some (encS s):=rfl
theorem AH{l:List b6}(hV:h.get V=some (.cells [a]))(hVk:V<k)(o:Own encS 1 k h a l)(hk:k<=h.next)(hlen:l.length+xs.l.length<=100000000)
  (hK:∀ a' h',h'.get V=some (.cells [a'])->Own encS 1 k h' a' (eN l xs.l)->(∀ c,c<k->c≠V->h'.get c=h.get c)->h.next<=h'.next->K (.ret (.tuple [])) h'=true):Sem TP 142 [an encS 1 xs,.ptr V 0] h K:=by
 refine F.sw ?_;rw [F.tD];simp only [aR,reduceAdd,reduceEqDiff,reduceIte]
 refine aE 0 xs.l.length (zero_le _) (fun i e h'=>∃ a',h'.get V=some (.cells [a'])/\Own encS 1 k h' a' (eN l (xs.l.take i))/\(∀ c,c<k->c≠V->h'.get c=h.get c)/\h.next<=h'.next /\
  e 1 = .ptr V 0/\e 5=an encS 1 xs/\e 6 = .int .i64 (xs.l.length:Int)/\e 7 = .int .i64 (i:Int)) ⟨a,hV,by simpa [eN] using o,fun _ _ _=>rfl,dL _,rfl,rfl,rfl,rfl⟩ ?_ ?_
 ·rintro i e h' _ hi ⟨a',gV,o',fr,A4,e1,e5,e6,e7⟩ K' hn hx hr hp;have hv:xs.l[i]?=some xs.l[i]:=ep hi;generalize xs.l[i]=s at hv
  have hlb:(eN l (xs.l.take i)).length<=100000000:=by
   have h1:=oS (xs.l.take i) l;have h2:=length_take_le i xs.l;omega
  rw [F.dK.aT];simp only [e1,e5,e6,e7,aR,reduceAdd,reduceEqDiff,reduceIte,bh hi,aW xs hi,jw hv,aj gV];refine ah (Hv o' (by unfold cN;omega) ?_);simp only [aR,reduceAdd,reduceEqDiff,reduceIte];have kD:=AG (o:=l) hv;unfold Dp at kD
  cases hq:(eN l (xs.l.take i)).any fun x=>s==x with
  |true=>
   rw [hq,if_pos rfl] at kD;simp only [Bool.not_true,aJ,aI hi (show xs.l.length<=cN by unfold cN;omega),aq];exact hn _ _ ⟨a',gV,by rw [kD];exact o',fr,A4,e1,e5,e6,rfl⟩
  |false=>
   rw [hq,if_neg (by simp)] at kD;obtain ⟨a2,h2,p1,p2,p3,p4,p5,p6⟩:=o'.push iE oQ (by omega) (bytes:=16) (by unfold cI;omega) s
   have gV2:h2.get V=some (.cells [a']):=by
    rw [p3 V (by omega) (fun hb=>by have:=o'.ge hb;omega)];exact gV
   have iP:=NP p2 gV2;simp only [Bool.not_false,aL,e1,aj gV,aR,reduceAdd,reduceEqDiff,reduceIte,Vi,p1,iP,aI hi (show xs.l.length<=cN by unfold cN;omega)];refine hn _ _ ⟨a2,by rw [Heap.aK,if_pos rfl],by rw [kD];exact p2.kL hVk _,fun c hc hcV=>?_,by rw [Heap.bl];omega,e1,e5,e6,rfl⟩;rw [Heap.aK,if_neg hcV,p3 c (by omega) (fun hb=>by have:=o'.ge hb;omega),fr c hc hcV]
 ·rintro e h' ⟨a',gV,o',fr,A4,e1,e5,e6,e7⟩ K' hx;rw [F.dK.aT];simp only [e6,e7,aR,reduceAdd,reduceEqDiff,reduceIte,aX];rw [hx,F.dK.aF];rw [kC (dL _)] at o';exact hK a' h' gV o' fr A4
def jZ(o:List b6)(cs:List eP):List b6:=cs.foldl (fun o c=>eN o c.args.l) o
def varsOf(r:aP):List b6:=jZ (eN [] r.args.l) r.body.l
def aP.mC(r:aP):Prop:=r.args.l.length<=1500/\r.body.l.length<=1500/\∀ c ∈ r.body.l,c.args.l.length<=1500
theorem Fb{cs:List eP}{i:Nat}{c:eP}(hc:cs[i]?=some c):jZ o (cs.take (i+1))=eN (jZ o (cs.take i)) c.args.l:=by
 unfold jZ;rw [take_add_one,hc];simp
theorem yK:∀ (cs:List eP) (o:List b6),(∀ c ∈ cs,c.args.l.length<=1500)->(jZ o cs).length<=o.length+cs.length*1500
 |[],o,_=>by simp [jZ]
 |c :: cs,o,h=>by
  have h1:=yK cs (eN o c.args.l) fun d hd=>h d (mem_cons_of_mem _ hd);have h2:=oS c.args.l o;have h3:=h c mem_cons_self;show (jZ (eN o c.args.l) cs).length<=_;rw [length_cons];omega
theorem I9{r:aP}(hf:r.mC)(i:Nat):(jZ (eN [] r.args.l) (r.body.l.take i)).length<=3000000:=by
 have h1:=yK (r.body.l.take i) (eN [] r.args.l) fun c hc=>hf.2.2 c (mem_of_mem_take hc);have h2:=oS r.args.l [];have h3:=length_take_le i r.body.l;have h4:=length_take_le' i r.body.l;have:=hf.1;have:=hf.2.1;simp only [length_nil] at h2;omega
theorem de{r:aP}(hf:r.mC){h:Heap}{K:Out->Heap->Bool}(hK:∀ x:Sl b6,x.l=varsOf r->K (.ret (an encS 1 x)) h=true) :
  Sem TP 100 [.agg [.str r.name,an encS 1 r.args,an bL 4 r.body]] h K:=by
 have main:Sem TP 100 [.agg [.str r.name,an encS 1 r.args,an bL 4 r.body]] Heap.empty (fun o h'=>yes (∃ v,∃ x:Sl b6,o = .ret v/\x.l=varsOf r/\Fz true h' v (an encS 1 x))):=by
  refine F.vC ?_;rw [F.wU];have hb:eZ (.agg [.str r.name,an encS 1 r.args,an bL 4 r.body])=some (aO r):=cT (kr r);simp only [hb,aq,bU,Heap.aM];have g0:(Heap.alloc (Heap.alloc Heap.empty (.cells (aO r))) (.cells [.ax])).get 0=some (.cells (aO r)):=by simp [Heap.aV,bU]
  have g1:(Heap.alloc (Heap.alloc Heap.empty (.cells (aO r))) (.cells [.ax])).get 1=some (.cells [.ax]):=by simp [Heap.aV,bU]
  have gn:(Heap.alloc (Heap.alloc Heap.empty (.cells (aO r))) (.cells [.ax])).next=2:=rfl
  generalize (Heap.alloc (Heap.alloc Heap.empty (.cells (aO r))) (.cells [.ax]))=H at g0 g1 gn ⊢;simp only [aR,reduceAdd,reduceEqDiff,reduceIte,aj g0,aO];refine ah (AH g1 (by omega) (Own.nil (k:=2)) (by omega) (by have:=hf.1;simp only [length_nil];omega) fun a h1 q1 q2 q3 q4=>?_);have TN:h1.get 0=some (.cells (aO r)):=by rw [q3 0 (by omega) (by omega)];exact g0
  simp only [aR,reduceAdd,reduceEqDiff,reduceIte,aj TN,aO]
  refine aE 0 r.body.l.length (zero_le _) (fun i e h'=>∃ a',h'.get 1=some (.cells [a'])/\Own encS 1 2 h' a' (jZ (eN [] r.args.l) (r.body.l.take i))/\2<=h'.next /\
   e 3 = .ptr 1 0/\e 4 = .func 142 [] [.ptr 1 0]/\e 14=an bL 4 r.body/\e 15 = .int .i64 (r.body.l.length:Int)/\e 16 = .int .i64 (i:Int)) ⟨a,q1,by simpa [jZ] using q2,by omega,rfl,rfl,rfl,rfl,rfl⟩ ?_ ?_
  ·rintro i e h' _ hi ⟨a',gV,o',A4,e3,e4,oT,nZ,e16⟩ K' hn hx hr hp;have hv:r.body.l[i]?=some r.body.l[i]:=ep hi;generalize r.body.l[i]=c at hv;have aem:=hf.2.2 c (ig hv);obtain ⟨H2,hs,k1,ko,kn⟩:=cr (h:=h') (zs:=[.int .i64 0,.bool false,.str [],.ax]) (cs:=bL c) (n:=4) rfl rfl (iC c);have x2:bu h' H2:=⟨by omega,fun b hb=>ko b (by omega)⟩
   have gV2:H2.get 1=some (.cells [a']):=by rw [x2.get 1 (by omega)];exact gV
   rw [F.de.aT];simp only [e3,e4,oT,nZ,e16,aR,reduceAdd,reduceEqDiff,reduceIte,bh hi,aW r.body hi,dm iB hv,hs];simp only [aR,reduceAdd,reduceEqDiff,reduceIte,aj k1,bL,fF,nil_append,cons_append];refine ah (AH (xs:=c.args) gV2 (by omega) (o'.ext x2) (by omega) (by have:=I9 hf i;omega) fun a3 h3 s1 s2 s3 s4=>?_);simp only [aR,reduceAdd,reduceEqDiff,reduceIte,aI hi (show r.body.l.length<=cN by have:=hf.2.1;unfold cN;omega)];refine hn _ _ ⟨a3,s1,by rw [Fb hv];exact s2,by omega,e3,e4,oT,nZ,rfl⟩
  ·rintro e h' ⟨a',gV,o',A4,e3,e4,oT,nZ,e16⟩ K' hx;rw [F.de.aT];simp only [nZ,e16,aR,reduceAdd,reduceEqDiff,reduceIte,aX];rw [hx,F.de.aF];simp only [e3,aR,reduceAdd,reduceEqDiff,reduceIte,aj gV];rw [kC (dL _)] at o'
   obtain ⟨x,jO,gm⟩:=o'.K7 (fun v y hy=>by
    simp only [encS,mem_cons,not_mem_nil,_root_.or_false] at hy
    subst hy;exact .scalar _ rfl)
   exact cw.2 ⟨a',x,rfl,jO,gm⟩
 refine main.frozen (by have:=fR r;simpa [aO,AV.cL,AV.pure] using this) fun o h' ho=>?_;obtain ⟨v,x,rfl,hx,hfz⟩:=cw.1 ho;exact ⟨v,_,rfl,hfz,hK x hx⟩
theorem ct(b o:Nat):bx (.ptr b o)=some (.ptr b o):=rfl
theorem Ja{d:TypeDesc}{k:AV}:∀ {es:List Entry} {i j:Nat} {v:AV},jF d k es i=some (some (j,v))->∃ n e,j=i+n/\es[n]?=some e
 |[],i,j,v,h=>by simp [jF] at h
 |e :: es,i,j,v,h=>by
  simp only [jF] at h;split at h
  ·cases h;exact ⟨0,e,rfl,rfl⟩
  ·obtain ⟨n,f,h1,h2⟩:=Ja h;exact ⟨n+1,f,by omega,by simpa using h2⟩
  ·cases h
theorem AI:∀ {es:List Entry} {i j:Nat} {e:Entry},(es.map (·.2.2)).Nodup->es[i]?=some e->oB (e.2.2:Int) es j=some (j+i)
 |[],i,j,e,_,h=>by simp at h
 |f :: es,0,j,e,_,h=>by
  simp only [getElem?_cons_zero,Option.some.injEq] at h;subst h;simp [oB]
 |f :: es,i+1,j,e,hn,h=>by
  rw [map_cons,nodup_cons] at hn;rw [getElem?_cons_succ] at h
  have hne:¬ ((f.2.2:Int)=(e.2.2:Int)):=fun heq=>hn.1 (by
   have:f.2.2=e.2.2:=by omega
   rw [this];exact List.mem_map_of_mem (ig h))
  rw [oB,if_neg hne,AI hn.2 h];congr 1;omega
theorem NQ{es:List Entry}{ck:Nat}{m:eF}(hb:h.get b=some (.map es ck))(hm:ki es m)(hB:jY es ck){k:b6}{q:Int}(hk:m.find k=some q)(v:Int) :
  ∃ xT born,lF .string (.int .i64 0) (.map b) (.str k) h=some (.tuple [.int .i64 q,.int .i64 born],h)/\jd (.map b) (.int .i64 born) (.int .i64 v) h=some (h.set b (.map xT ck))/\ki xT (m.rD k v)/\jY xT ck:=by
 obtain ⟨r,hr,uO⟩:=ki.jF (k:=k) 0 hm
 cases r with
 |none=>simp only at uO;rw [hk] at uO;cases uO
 |some jv=>
  obtain ⟨n,q',hj,b',c,_,e⟩:=uO;obtain ⟨j,w⟩:=jv;simp only [Nat.zero_add] at hj c;subst hj;subst c;rw [hk] at b';cases b';obtain ⟨n,f,h1,h2⟩:=Ja hr;rw [Nat.zero_add] at h1;subst h1;refine ⟨fh es j (.int .i64 v),(f.2.2:Int),?_,?_,e v,hB.set _ _⟩
  ·simp only [lF,hb,qu,qt,if_true,hr,GG,h2]
  ·have:=AI (j:=0) hB.nodup h2;rw [Nat.zero_add] at this;simp only [jd,hb,this]
structure fC (hs:List b6) (h:Heap) (M:Nat) (ks:List b6) (lv:ey.Lv):Prop where
 ex:∃ es ck m,h.get M=some (.map es ck)/\ki es m/\jY es ck/\m.map (·.1)=ks/\∀ x,m.find x=if x ∈ hs then some (lv x:Int) else none
theorem fC.gr(l:fC hs h M ks lv)(he:h'.get M=h.get M):fC hs h' M ks lv:=by
 obtain ⟨es,ck,m,h1,h2⟩:=l.ex;exact ⟨es,ck,m,by rw [he];exact h1,h2⟩
def fA(r:aP)(c:eP):ey.Edge:=⟨c.name,if c.neg then 1 else 0,r.name⟩
def mo(hs:List b6)(r:aP)(c:eP):List ey.Edge:=if c.kind=0/\c.name ∈ hs then [fA r c] else []
def nC(hs:List b6)(r:aP)(cs:List eP):List ey.Edge:=cs.flatMap (mo hs r)
def jq(hs:List b6)(rs:List aP):List ey.Edge:=rs.flatMap fun r=>nC hs r r.body.l
theorem AJ{r:aP}{cs:List eP}{c:eP}(hc:cs[j]?=some c):nC hs r (cs.take (j+1))=nC hs r (cs.take j)++mo hs r c:=by
 unfold nC;rw [take_add_one,hc];simp
theorem Dq{rs:List aP}{i:Nat}{r:aP}(hr:rs[i]?=some r):jq hs (rs.take (i+1))=jq hs (rs.take i)++nC hs r r.body.l:=by
 unfold jq;rw [take_add_one,hr];simp
theorem fC.look(l:fC hs h M ks lv)(k:b6) :
  dR .string (.int .i64 0) true (.map M) (.str k) h=some (.tuple [.int .i64 (if k ∈ hs then (lv k:Int) else 0),.bool (decide (k ∈ hs))]):=by
 obtain ⟨es,ck,m,h1,h2,h3,h4,h5⟩:=l.ex;rw [rE h1 h2,h5];by_cases hk:k ∈ hs<;>simp [hk]
theorem fC.Vj(l:fC hs h M ks lv)(k:b6) :
  dR .string (.int .i64 0) false (.map M) (.str k) h=some (.int .i64 (if k ∈ hs then (lv k:Int) else 0)):=by
 obtain ⟨es,ck,m,h1,h2,h3,h4,h5⟩:=l.ex;rw [tV h1 h2,h5];by_cases hk:k ∈ hs<;>simp [hk]
theorem fC.aen{e:ey.Edge}(l:fC hs h M ks lv)(hh:e.h ∈ hs)(hlt:lv e.h<lv e.b+e.w) :
  ∃ born h',lF .string (.int .i64 0) (.map M) (.str e.h) h=some (.tuple [.int .i64 (lv e.h:Int),.int .i64 born],h)/\jd (.map M) (.int .i64 born) (.int .i64 ((lv e.b+e.w:Nat):Int)) h=some h' /\
   fC hs h' M ks (ey.gZ lv e)/\(∀ b,b≠M->h'.get b=h.get b)/\h'.next=h.next:=by
 obtain ⟨es,ck,m,h1,h2,h3,h4,h5⟩:=l.ex;have hf:m.find e.h=some (lv e.h:Int):=by rw [h5,if_pos hh]
 obtain ⟨xT,born,q1,q2,q3,q4⟩:=NQ h1 h2 h3 hf ((lv e.b+e.w:Nat):Int);refine ⟨born,_,q1,q2,⟨xT,ck,_,by rw [Heap.aK,if_pos rfl],q3,q4,?_,fun x=>?_⟩,fun b hb=>by rw [Heap.aK,if_neg hb],Heap.bl _ _ _⟩
 ·rw [I7,if_pos (mem_map.2 ⟨_,qH hf,rfl⟩)];exact h4
 ·rw [uW];unfold ey.gZ;rw [if_pos hlt];by_cases hx:x=e.h
  ·subst hx;rw [if_pos rfl,if_pos hh,if_pos rfl]
  ·rw [if_neg hx,if_neg hx,h5]
theorem Lc{P:Nat}{A:AV}{rules:Sl aP}{N:Nat}(hP:h.get P=some (.cells [an aO 3 rules,A,.map M]))(hl:fC hs h M ks lv)(RF:P<h.next)(WC:M<h.next)
  (hr:rules.l.length<=60) (hb:∀ r ∈ rules.l,r.body.l.length<=20/\r.name ∈ hs) (hN:∀ x,lv x<=N) (hNb:N<=1000000)
  (hK:∀ h',fC hs h' M ks (ey.round (jq hs rules.l) lv)->(∀ b,b<h.next->b≠M->h'.get b=h.get b)->h.next<=h'.next->K (.ret (.bool (!decide (ey.di (jq hs rules.l) lv)))) h'=true):Sem TP 141 [.ptr P 0] h K:=by
 have hPM:P≠M:=fun e=>by
  obtain ⟨es,ck,m,h1,_⟩:=hl.ex;rw [e,h1] at hP;cases hP
 refine F.rJ ?_;rw [F.sx];simp only [aR,reduceAdd,reduceEqDiff,reduceIte,ct,aj hP]
 refine aE 0 rules.l.length (zero_le _) (fun i e h'=>∃ cur ch,ey.RS lv cur (jq hs (rules.l.take i)) ch/\fC hs h' M ks cur/\(∀ x,cur x<=N+i*20)/\(∀ b,b<h.next->b≠M->h'.get b=h.get b)/\h.next<=h'.next /\
  e 0 = .ptr P 0/\e 3 = .bool ch/\e 13=an aO 3 rules/\e 14 = .int .i64 (rules.l.length:Int)/\e 15 = .int .i64 (i:Int)) ⟨lv,false,ey.RS.nil lv,hl,by simpa using hN,fun _ _ _=>rfl,dL _,rfl,rfl,rfl,rfl,rfl⟩ ?_ ?_
 ·rintro i e h' _ hi ⟨cur,ch,rs,la,bd,fr,A4,e0,e3,qi,oT,nZ⟩ K' hn hx sr hp;have hv:rules.l[i]?=some rules.l[i]:=ep hi;generalize rules.l[i]=r at hv;obtain ⟨abe,hin⟩:=hb r (ig hv);obtain ⟨H,Fc,g1,go,gn⟩:=cr (h:=h') (zs:=[.str [],.ax,.ax]) (cs:=aO r) (n:=3) rfl rfl (kr r);rw [F.bq.aT];simp only [e0,e3,qi,oT,nZ,aR,reduceAdd,reduceEqDiff,reduceIte,bh hi,aW rules hi,dm gE hv,Fc];simp only [aR,reduceAdd,reduceEqDiff,reduceIte,aj g1,aO]
  refine aE 0 r.body.l.length (zero_le _) (fun j e h2=>∃ cur ch,ey.RS lv cur (jq hs (rules.l.take i)++nC hs r (r.body.l.take j)) ch/\fC hs h2 M ks cur/\(∀ x,cur x<=N+i*20+j)/\(∀ b,b<h.next->b≠M->h2.get b=h.get b)/\h2.get h'.next=some (.cells (aO r))/\h'.next<h2.next /\
   e 0 = .ptr P 0/\e 3 = .bool ch/\e 5 = .ptr h'.next 0/\e 13=an aO 3 rules/\e 14 = .int .i64 (rules.l.length:Int)/\e 15 = .int .i64 (i:Int)/\e 20=an bL 4 r.body/\e 21 = .int .i64 (r.body.l.length:Int)/\e 22 = .int .i64 (j:Int))
   ⟨cur,ch,by simpa [nC] using rs,la.gr (go M (by omega)),by simpa using bd,fun b hb1 hb2=>by rw [go b (by omega)];exact fr b hb1 hb2,g1,by omega,e0,e3,rfl,qi,oT,nZ,rfl,rfl,rfl⟩ ?_ ?_
  ·rintro j e h2 _ hj ⟨cur,ch,rs,la,bd,fr,gR,pH,e0,e3,e5,qi,oT,nZ,Hw,AL,Bz⟩ K2 Qa gm rY F5;have hc:r.body.l[j]?=some r.body.l[j]:=ep hj;generalize r.body.l[j]=c at hc;obtain ⟨H2,qX,k1,ko,kn⟩:=cr (h:=h2) (zs:=[.int .i64 0,.bool false,.str [],.ax]) (cs:=bL c) (n:=4) rfl rfl (iC c);have RG:fC hs H2 M ks cur:=la.gr (ko M (by omega));have gP2:H2.get P=some (.cells [an aO 3 rules,A,.map M]):=by rw [ko P (by omega),fr P RF hPM];exact hP
   have XX:H2.get h'.next=some (.cells (aO r)):=by rw [ko _ (by omega)];exact gR
   have fr2:∀ b,b<h.next->b≠M->H2.get b=h.get b:=fun b hb1 hb2=>by rw [ko b (by omega)];exact fr b hb1 hb2
   have hbig:r.body.l.length<=cN:=by unfold cN;omega
   have iP:=AJ (hs:=hs) (r:=r) hc;rw [F.bq.dr];simp only [e0,e3,e5,qi,oT,nZ,Hw,AL,Bz,aR,reduceAdd,reduceEqDiff,reduceIte,bh hj,aW r.body hj,dm iB hc,qX];simp only [aR,reduceAdd,reduceEqDiff,reduceIte,aj k1,ct,aj gP2,bL,RG.look,cA];by_cases k0:c.kind=0
   ·simp only [fE k0,Bool.not_true,aJ];by_cases hm:c.name ∈ hs
    ·have OR:mo hs r c = [fA r c]:=(by unfold mo;rw [if_pos ⟨k0,hm⟩]);rw [OR] at iP;simp only [fE hm,Bool.not_true,aJ,if_pos hm,aR,reduceAdd,reduceEqDiff,reduceIte,aj k1,bL]
     have J:∀ e':Env,e' 0 = .ptr P 0->e' 3 = .bool ch->e' 5 = .ptr h'.next 0->e' 8 = .int .i64 ((cur c.name+(fA r c).w:Nat):Int)->e' 13=an aO 3 rules->e' 14 = .int .i64 (rules.l.length:Int)->e' 15 = .int .i64 (i:Int)->e' 20=an bL 4 r.body->e' 21 = .int .i64 (r.body.l.length:Int)->e' 22 = .int .i64 (j:Int) ->
       F.bq.J0 K2 ⟨e',71,[],H2⟩=true:=by
      intro e' e0 e3 e5 e8 qi oT nZ Hw AL Bz;rw [F.bq.yu];simp only [e0,e5,e8,aR,reduceAdd,reduceEqDiff,reduceIte,ct,aj gP2,aj XX,aO,RG.Vj,if_pos hin];by_cases hlt:cur r.name<cur c.name+(fA r c).w
      ·obtain ⟨born,h3,q1,q2,q3,q4,q5⟩:=RG.aen (e:=fA r c) hin hlt;have q1':lF .string (.int .i64 0) (.map M) (.str r.name) H2=some (.tuple [.int .i64 (cur r.name:Int),.int .i64 born],H2):=q1;have q2':jd (.map M) (.int .i64 born) (.int .i64 ((cur c.name+(fA r c).w:Nat):Int)) H2=some h3:=q2;simp only [bh hlt,aL,e0,e5,e8,Bz,aR,reduceAdd,reduceEqDiff,reduceIte,ct,aj gP2,aj XX,aO,q1',q2',aI hj hbig];refine Qa _ _ ⟨_,true,?_,q3,fun x=>?_,fun b hb1 hb2=>by rw [q4 b hb2];exact fr2 b hb1 hb2,?_,by omega,e0,rfl,e5,qi,oT,nZ,Hw,AL,rfl⟩
       ·rw [iP,<- append_assoc];exact rs.up hlt
       ·have:=ey.sN (e:=fA r c) bd (by unfold fA;simp only;split<;>omega) x;omega
       ·rw [q4 _ (by omega)];exact XX
      ·simp only [eT (by omega:¬ ((cur r.name:Int)<((cur c.name+(fA r c).w:Nat):Int))),aJ,Bz,aI hj hbig,aq];exact Qa _ _ ⟨cur,ch,by rw [iP,<- append_assoc];exact rs.same hlt,RG,fun x=>by have:=bd x;omega,fr2,XX,by omega,e0,e3,e5,qi,oT,nZ,Hw,AL,rfl⟩
     cases hng:c.neg with
     |true=>
      have hw:(fA r c).w=1:=(by unfold fA;simp [hng]);have Dr:=aI (i:=cur c.name) (n:=2000000) (by have:=bd c.name;omega) (by unfold cN;omega);simp only [aL,Dr,aq];exact J _ e0 e3 e5 (by rw [hw];rfl) qi oT nZ Hw AL Bz
     |false=>
      have hw:(fA r c).w=0:=(by unfold fA;simp [hng]);simp only [aJ];exact J _ e0 e3 e5 (by rw [hw];rfl) qi oT nZ Hw AL Bz
    ·have OR:mo hs r c = []:=(by unfold mo;rw [if_neg (fun h=>hm h.2)]);rw [OR,append_nil] at iP;simp only [eT hm,Bool.not_false,aL,aI hj hbig,aq];exact Qa _ _ ⟨cur,ch,by rw [iP];exact rs,RG,fun x=>by have:=bd x;omega,fr2,XX,by omega,e0,e3,e5,qi,oT,nZ,Hw,AL,rfl⟩
   ·have OR:mo hs r c = []:=(by unfold mo;rw [if_neg (fun h=>k0 h.1)]);rw [OR,append_nil] at iP;simp only [eT k0,Bool.not_false,aL,aI hj hbig,aq];exact Qa _ _ ⟨cur,ch,by rw [iP];exact rs,RG,fun x=>by have:=bd x;omega,fr2,XX,by omega,e0,e3,e5,qi,oT,nZ,Hw,AL,rfl⟩
  ·rintro e h2 ⟨cur,ch,rs,la,bd,fr,gR,pH,e0,e3,e5,qi,oT,nZ,Hw,AL,Bz⟩ K2 gm;rw [F.bq.dr];simp only [AL,Bz,aR,reduceAdd,reduceEqDiff,reduceIte,aX];rw [gm,F.bq.cz];simp only [nZ,aR,reduceAdd,reduceEqDiff,reduceIte,aI hi (show rules.l.length<=cN by unfold cN;omega),aq];rw [kC (dL _),<- Dq hv] at rs;exact hn _ _ ⟨cur,ch,rs,la,fun x=>by have:=bd x;omega,fr,by omega,e0,e3,qi,oT,rfl⟩
 ·rintro e h' ⟨cur,ch,rs,la,bd,fr,A4,e0,e3,qi,oT,nZ⟩ K' hx;rw [F.bq.aT];simp only [oT,nZ,aR,reduceAdd,reduceEqDiff,reduceIte,aX];rw [hx,F.bq.aF];rw [kC (dL _)] at rs;obtain ⟨d1,d2⟩:=rs.done;simp only [bO,reduceEqDiff,reduceIte,e3];rw [d2];rw [d1] at la;exact hK h' la fr A4
theorem abg(x:Sl aP)(A M:Nat):iw [.ax,.jP,.jP] [(0,1),(1,1),(2,1)] [an aO 3 x,.map A,.map M]=some (.agg [an aO 3 x,.map A,.map M]):=by cases x<;>rfl
theorem abh(x:Sl aP)(A M:Nat):eZ (.agg [an aO 3 x,.map A,.map M])=some [an aO 3 x,.map A,.map M]:=cT (by simp only [bw,gi];rfl)
def Dt(m:eF)(nm:b6)(n:Nat):Option eF:=match m.find nm with
 |none=>some (m.rD nm n)
 |some k=>if k=(n:Int) then some (m.rD nm n) else none
def nO:List eP->eF->Option eF
 |[],m=>some m
 |c :: cs,m=>bif gK c then (if c.kind=0 then (match Dt m c.name c.args.l.length with|none=>none|some m'=>nO cs m') else nO cs m) else none
def dS:List aP->eF->Option eF
 |[],m=>some m
 |r :: rs,m=>bif mI r.name r.args.l then (match Dt m r.name r.args.l.length with
   |none=>none
   |some m1=>if 20<r.body.l.length then none else if 12<(varsOf r).length then none else match nO r.body.l m1 with
    |none=>none
    |some m2=>dS rs m2) else none
theorem F6{l:List α}{i:Nat}{a:α}(h:l[i]?=some a):l.drop i=a :: l.drop (i+1):=by
 have hi:i<l.length:=(jJ.1 h).1;rw [drop_eq_getElem_cons hi];rw [ep hi] at h;cases h;rfl
theorem fC.add(l:fC hs h M ks (fun _=>0))(hn:ks.Nodup)(nm:b6) :
  ∃ h' ks',eU .string (.map M) (.str nm) (.int .i64 0) h=some h'/\fC (hs++[nm]) h' M ks' (fun _=>0)/\ks'.Nodup/\(∀ b,b≠M->h'.get b=h.get b)/\h'.next=h.next:=by
 obtain ⟨es,ck,m,h1,h2,h3,h4,h5⟩:=l.ex;obtain ⟨xT,G4,q1,q2⟩:=CD h1 h2 nm 0;have g:(h.set M (.map xT G4)).get M=some (.map xT G4):=by rw [Heap.aK,if_pos rfl]
 refine ⟨_,(m.rD nm 0).map (·.1),q1,⟨xT,G4,_,g,q2,wj h1 h3 q1 g,rfl,fun x=>?_⟩,FY (by rw [h4];exact hn) nm 0,fun b hb=>by rw [Heap.aK,if_neg hb],Heap.bl _ _ _⟩;rw [uW,h5];by_cases hx:x=nm
 ·subst hx;simp
 ·simp [hx]
theorem fC.mem(l:fC hs h M ks lv)(x:b6):x ∈ ks↔x ∈ hs:=by
 obtain ⟨es,ck,m,h1,h2,h3,h4,h5⟩:=l.ex;rw [<- h4];constructor
 ·intro hx;obtain ⟨p,hp,rfl⟩:=mem_map.1 hx;have h6:=h5 p.1;by_cases hh:p.1 ∈ hs
  ·exact hh
  ·rw [if_neg hh] at h6;unfold eF.find at h6;rw [map_eq_none_iff,find?_eq_none] at h6;exact absurd (h6 p hp) (by simp)
 ·intro hx;have h6:=h5 x;rw [if_pos hx] at h6;exact mem_map.2 ⟨_,qH h6,rfl⟩
theorem fC.len(l:fC hs h M ks lv):bW .map (.map M) h=some (.int .i64 (ks.length:Int)):=by
 obtain ⟨es,ck,m,h1,h2,h3,h4,h5⟩:=l.ex
 have:∀ (es:List Entry) (m:eF),ki es m->es.length=m.length:=by
  intro es
  induction es with
  |nil=>intro m hm;cases m with
   |nil=>rfl
   |cons p m=>exact hm.elim
  |cons e es ih=>intro m hm;cases m with
   |nil=>exact hm.elim
   |cons p m=>rw [length_cons,length_cons,ih m hm.2.2]
 have hl:=this es m h2;rw [<- h4,length_map,<- hl];simp [bW,lZ,h1]
theorem Du:∀ {E:List ey.Edge} {L:ey.Lv} {N:Nat},(∀ e ∈ E,e.w<=1)->(∀ x,L x<=N)->∀ x,E.foldl ey.gZ L x<=N+E.length
 |[],L,N,_,h,x=>h x
 |e :: E,L,N,hw,h,x=>by
  have:=Du (E:=E) (L:=ey.gZ L e) (N:=N+1) (fun f hf=>hw f (mem_cons_of_mem _ hf)) (ey.sN h (hw e mem_cons_self)) x;rw [length_cons];show E.foldl ey.gZ (ey.gZ L e) x<=_;omega
theorem Dv(hs:List b6)(r:aP):∀ cs:List eP,(nC hs r cs).length<=cs.length
 |[]=>dL _
 |c :: cs=>by
  have:=Dv hs r cs;have h1:(mo hs r c).length<=1:=by unfold mo;split<;>simp
  show (mo hs r c++nC hs r cs).length<=_;rw [length_append,length_cons];omega
theorem F7(hs:List b6):∀ rs:List aP,(∀ r ∈ rs,r.body.l.length<=20)->(jq hs rs).length<=rs.length*20
 |[],_=>dL _
 |r :: rs,h=>by
  have h1:=F7 hs rs fun q hq=>h q (mem_cons_of_mem _ hq);have h2:=Dv hs r r.body.l;have h3:=h r mem_cons_self;show (nC hs r r.body.l++jq hs rs).length<=_;rw [length_append,length_cons];omega
theorem tX{rs:List aP}{e:ey.Edge}(he:e ∈ jq hs rs):∃ r ∈ rs,∃ c ∈ r.body.l,c.kind=0/\c.name ∈ hs/\e=fA r c:=by
 obtain ⟨r,hr,he⟩:=mem_flatMap.1 he;obtain ⟨c,hc,he⟩:=mem_flatMap.1 he;unfold mo at he;split at he
 ·rename_i h;rw [mem_singleton] at he;exact ⟨r,hr,c,hc,h.1,h.2,he⟩
 ·cases he
theorem Ld(r:aP)(c:eP):(fA r c).w<=1:=by unfold fA;simp only;split<;>omega
theorem ji:∀ {rs:List aP} {m m':eF},dS rs m=some m'->∀ r ∈ rs,mI r.name r.args.l=true/\r.body.l.length<=20/\(varsOf r).length<=12
 |[],_,_,_,r,hr=>by cases hr
 |r0 :: rs,m,m',h,r,hr=>by
  rw [dS] at h
  cases ha:mI r0.name r0.args.l with
  |false=>rw [ha] at h;cases h
  |true=>
   rw [ha,cond_true] at h;split at h
   ·cases h
   ·split at h
    ·cases h
    ·split at h
     ·cases h
     ·split at h
      ·cases h
      ·rcases mem_cons.1 hr with rfl|hr
       ·exact ⟨ha,by omega,by omega⟩
       ·exact ji h r hr
def bE(rs:List aP):List b6:=rs.map (·.name)
def bK(rs:List aP):List ey.Edge:=jq (bE rs) rs
structure kW (rs:List aP):Prop where
 mC:rs.length<=60
 go:∃ m,dS rs []=some m
 lev:∃ k,ey.di (bK rs) (ey.iter (bK rs) k)
theorem xj{rs:List aP}(sJ:rs.length<=60)(uV:∀ r ∈ rs,r.body.l.length<=20):∀ k x,ey.iter (bK rs) k x<=k*1200
 |0,x=>zero_le _
 |k+1,x=>by
  have h1:=Du (E:=bK rs) (L:=ey.iter (bK rs) k) (N:=k*1200) (fun e he=>by obtain ⟨r,_,c,_,_,_,rfl⟩:=tX he;exact Ld r c) (xj sJ uV k) x;have h2:(bK rs).length<=rs.length*20:=F7 _ rs uV;show (bK rs).foldl ey.gZ (ey.iter (bK rs) k) x<=_;omega
def NR(m:eF)(nm:b6)(n:Nat):Bool:=match m.find nm with|none=>true|some k=>decide (k=(n:Int))
theorem F8(m:eF)(nm:b6)(n:Nat):Dt m nm n=if NR m nm n=true then some (m.rD nm n) else none:=by
 unfold Dt NR
 cases m.find nm with
 |none=>rfl
 |some k=>by_cases h:k=(n:Int)<;>simp [h]
theorem Jb(n:Int):bw (encI n)=true:=rfl
theorem Qb(n:Int):gd [.int .i64 0] [(0,1)] [.int .i64 n]=some (encI n):=rfl
theorem Jc(h:ec s=true):s.length<=12:=by
 cases s with
 |nil=>exact zero_le _
 |cons c s=>
  simp only [ec,and_eq_true] at h;simp only [decide_eq_true_eq] at h;omega
theorem xk{xs:List b6}(h:mI nm xs=true):ec nm=true:=by
 unfold mI at h;rw [and_eq_true] at h;exact h.1
theorem fC.aeq(l:fC hs h M ks lv)(BV:ks.Nodup)(hlen:∀ s ∈ ks,s.length<=1000) :
  ∃ es ck,h.get M=some (.map es ck)/\rG ck es=true/\es.map keyBytes=ks/\es.length=ks.length:=by
 obtain ⟨es,ck,m,h1,h2,h3,h4,h5⟩:=l.ex;have hk:es.map keyBytes=ks:=by rw [MI h2,h4]
 refine ⟨es,ck,h1,FZ (fun e he=>?_) (by rw [hk];exact BV) h3.nodup,hk,by rw [<- hk,length_map]⟩;obtain ⟨p,hp,q1,q2⟩:=h2.mem e he;exact ⟨⟨p.1,q1,hlen _ (by rw [<- h4];exact List.mem_map_of_mem hp)⟩,h3.lt e he⟩
def cX(t:Sl Int):List AV:=[an encI 1 t]
theorem qI(t:Sl Int):(cX t).length=1:=rfl
theorem mW(t:Sl Int):AV.cL (cX t)=true:=by simp [cX,AV.cL,cj kf]
theorem ir{l:List (Sl Int)}{i:Nat}{t:Sl Int}(ht:l[i]?=some t):ag none (.dN (l.flatMap cX) (i*1)) h=some (an encI 1 t):=by
 rw [wP qI ht];rfl
section
variable {α:Type} {enc:α->List AV} {sz k:Nat}
end
abbrev PB:=Nat×List Int
def NS(p:PB):List AV:=[.slice p.1 0 p.2.length 1]
theorem Qc(p:PB):(NS p).length=1:=rfl
theorem Qd(p:PB):bw (NS p)=true:=rfl
structure Dw (k:Nat) (h:Heap) (a:AV) (ps:List PB):Prop where
 own:Own NS 1 k h a ps
 cell:∀ p ∈ ps,k<=p.1/\p.1<h.next/\cD a≠some p.1/\h.get p.1=some (.cells (p.2.map iv))
theorem Dw.nil(k:Nat)(h:Heap):Dw k h .ax []:=⟨.nil,fun p hp=>by cases hp⟩
theorem Dw.ext{k:Nat}{h h':Heap}{a:AV}{ps:List PB}(n:Dw k h a ps)(hx:bu h h'):Dw k h' a ps:=
 ⟨n.own.ext hx,fun p hp=>by
  obtain ⟨h1,h2,h3,h4⟩:=n.cell p hp
  exact ⟨h1,Nat.lt_of_lt_of_le h2 hx.next,h3,by rw [hx.get _ h2];exact h4⟩⟩
theorem Dw.y7{old:Bool}{ps:List PB}(n:Dw k h a ps):∃ x:Sl (Sl Int),x.l.map Sl.l=ps.map (·.2)/\Fz old h a (an cX 1 x):=by
 obtain ⟨o,hc⟩:=n
 cases o with
 |nil=>exact ⟨none,rfl,.scalar _ rfl⟩
 |row b ps h1 h2 h3=>
  refine ⟨some (ps.map fun p=>some p.2),by simp [List.map_map,Function.comp_def],?_⟩
  have e1:ps.flatMap NS=ps.map fun p=>AV.slice p.1 0 p.2.length 1:=by
   induction ps with
   |nil=>rfl
   |cons p ps ih=>rw [flatMap_cons,map_cons];exact congrArg _ (by
     clear ih h3 hc
     induction ps with
     |nil=>rfl
     |cons q ps ih=>rw [flatMap_cons,map_cons,ih];rfl)
  have e2:(ps.map fun p=>(some p.2:Sl Int)).flatMap cX=ps.map fun p=>an encI 1 (some p.2):=by
   clear h3 hc e1
   induction ps with
   |nil=>rfl
   |cons q ps ih=>rw [map_cons,flatMap_cons,map_cons,ih];rfl
  rw [e1] at h3
  have hf:Fz old h (.slice b 0 ps.length 1) (.au (ps.map fun p=>an encI 1 (some p.2)) 0 ps.length 1):=by
   refine .slice b 0 ps.length 1 _ _ h3 (by simp) fun i x y hx hy=>?_;rw [getElem?_map] at hx hy;obtain ⟨p,hp,rfl⟩:=map_eq_some_iff.1 hx;rw [hp] at hy;cases hy;exact yJ (hc p (ig hp)).2.2.2
  have:an cX 1 (some (ps.map fun p=>(some p.2:Sl Int))) = .au (ps.map fun p=>an encI 1 (some p.2)) 0 ps.length 1:=by
   simp only [an,e2,length_map]
  rw [this];exact hf
theorem Dw.push{k:Nat}{h:Heap}{a:AV}{ps:List PB}(n:Dw k h a ps)(hk:k<=h.next)(hroom:(ps.length+1)*24<=cI)(p:PB)(p1:k<=p.1)(p2:p.1<h.next)(p3:cD a≠some p.1)(p4:h.get p.1=some (.cells (p.2.map iv))) :
  ∃ a' h',b7 1 24 a (.slice h.next 0 1 1) (h.alloc (.cells (NS p)))=some (a',h')/\Dw k h' a' (ps++[p])/\h.next<=h'.next/\(∀ c,c<h.next->cD a≠some c->h'.get c=h.get c)/\(∀ h0,bu h0 h->h0.next<=k->bu h0 h')/\∀ c,cD a'=some c->h.next<=c:=by
 obtain ⟨a',h',e1,o1,f1,n1,x1,b1⟩:=n.own.push Qc Qd hk hroom p;refine ⟨a',h',e1,⟨o1,fun q hq=>?_⟩,n1,f1,x1,b1⟩
 have nU:k<=q.1/\q.1<h.next/\cD a≠some q.1/\h.get q.1=some (.cells (q.2.map iv)):=by
  rcases mem_append.1 hq with hq|hq
  ·exact n.cell q hq
  ·rw [mem_singleton] at hq;subst hq;exact ⟨p1,p2,p3,p4⟩
 obtain ⟨q1,q2,q3,q4⟩:=nU;exact ⟨q1,by omega,fun hb=>by have:=b1 _ hb;omega,by rw [f1 _ q2 q3];exact q4⟩
theorem Le(h1:1<=n){i:Nat}(h:i<=k):n ^ i<=n ^ k:=Nat.pow_le_pow_right h1 h
theorem tY(n:Nat):∀ (a b:List Int) (r:Nat),vO n (a++b) r=vO n b (vO n a r)
 |[],_,_=>rfl
 |x :: a,b,r=>tY n a b _
theorem ML{n:Nat}:∀ (l:List Int) (r i:Nat),jC n l=true->r<n ^ i->vO n l r<n ^ (i+l.length)
 |[],r,i,_,h=>h
 |x :: l,r,i,hb,h=>by
  simp only [jC,all_cons,and_eq_true,not_eq_true',decide_eq_false_iff_not] at hb
  have:r*n+x.toNat<n ^ (i+1):=by
   have h1:(r+1)*n<=n ^ i*n:=mul_le_mul_right n h;rw [succ_mul] at h1;rw [Nat.pow_succ];omega
  have:=ML l (r*n+x.toNat) (i+1) (by rw [jC,List.all_eq_true];simpa using hb.2) this;rw [length_cons,show i+(l.length+1)=i+1+l.length by omega];exact this
theorem xm{l:List Int}(hb:jC n l=true):nA n l<n ^ l.length:=by
 have:=ML l 0 0 hb (by simp);rw [Nat.zero_add] at this;exact this
theorem Qe{l:List Int}{i:Nat}(hv:l[i]?=some v):nA n (l.take (i+1))=nA n (l.take i)*n+v.toNat:=by
 rw [nA,take_add_one,hv,tY];rfl
theorem TO{n:Int}{l:List Int}(hb:jC n l=true)(i:Nat):jC n (l.take i)=true:=by
 unfold jC at hb ⊢;rw [List.all_eq_true] at hb ⊢;exact fun x hx=>hb x (mem_of_mem_take hx)
theorem Qf{n:Int}{l:List Int}(hb:jC n l=true){i:Nat}(hv:l[i]?=some v):0<=v/\v<n:=by
 unfold jC at hb;rw [List.all_eq_true] at hb;have:=hb v (ig hv);simp at this;omega
theorem yL{l:List Int}(hb:jC n l=true)(h1:1<=n)(hc:n ^ l.length<=4096){i:Nat}(hv:l[i]?=some v) :
  aG .mul (.int .i64 ((nA n (l.take i):Nat):Int)) (.int .i64 (n:Int))=some (.int .i64 ((nA n (l.take i)*n:Nat):Int)) /\
  aG .add (.int .i64 ((nA n (l.take i)*n:Nat):Int)) (.int .i64 v)=some (.int .i64 ((nA n (l.take (i+1)):Nat):Int)):=by
 have hi:i<l.length:=(jJ.1 hv).1;have hlt:nA n (l.take (i+1))<n ^ (l.take (i+1)).length:=xm (TO hb _);have hp:n ^ (l.take (i+1)).length<=4096:=Nat.le_trans (Le h1 (by rw [length_take];omega)) hc;obtain ⟨v0,v1⟩:=Qf hb hv;have he:nA n (l.take (i+1))=nA n (l.take i)*n+v.toNat:=Qe hv;have hm:((nA n (l.take i):Nat):Int)*(n:Int)=((nA n (l.take i)*n:Nat):Int):=by rw [Int.natCast_mul]
 have hs:((nA n (l.take i)*n:Nat):Int)+v=((nA n (l.take (i+1)):Nat):Int):=by omega
 exact ⟨by rw [uL (by rw [hm];omega) (by rw [hm];omega),hm],by rw [iF (by rw [hs];omega) (by rw [hs];omega),hs]⟩
def dg:List Int->List Int->Bool
 |a :: l,b :: m=>if a=b then dg l m else decide (a<b)
 |_,_=>false
structure Rel where
 name:b6
 arity:Int
 aN:Sl (Sl Int)
structure cM where
 size:Int
 aC:Sl Rel
def Fe(p:Nat->Bool)(n:Nat):Bool:=(List.range n).all p
def mq(n k:Nat)(l:List (Sl Int))(i:Nat):Bool:=match l[i]? with
 |none=>true
 |some t=>decide (t.l.length=k)&&(jC n t.l&&(match i with
  |0=>true
  |j+1=>match l[j]? with
   |none=>true
   |some p=>dg p.l t.l))
def yM(n k:Nat)(l:List (Sl Int)):Bool:=Fe (mq n k l) l.length
def nD(n:Nat)(r:Rel):Bool:=ec r.name&&(decide (0<=r.arity)&&(decide (r.arity<=12)&&(decide (n ^ r.arity.toNat<=4096)&&yM n r.arity.toNat r.aN.l)))
def oU(s:cM)(i:Nat):Bool:=match s.aC.l[i]? with
 |none=>true
 |some r=>nD s.size.toNat r&&!((s.aC.l.take i).any fun q=>q.name==r.name)
def cG(s:cM):Bool:=decide (1<=s.size)&&(decide (s.size<=64)&&(decide (s.aC.l.length<=8)&&Fe (oU s) s.aC.l.length))
theorem Jd{es:List Entry}{ck:Nat}{m:mU}(hb:h.get b=some (.map es ck))(hm:tQ es m)(z:AV)(k:b6) :
  dR .string z false (.map b) (.str k) h=some ((m.find k).getD z):=by
 obtain ⟨r,hr,uO⟩:=tQ.jF (k:=k) 0 hm;simp only [dR,lZ,hb,qu,qt,if_true,hr]
 cases r with
 |none=>simp at uO;simp [uO]
 |some jv=>
  obtain ⟨n,_,b,_⟩:=uO;obtain ⟨j,v⟩:=jv;simp [b]
def bv(b:Bool):AV:=.bool b
theorem Hy{i:Nat}{v:Bool}(hb:h.get b=some (.cells (d.map bv)))(hv:d[i]?=some v):ag none (.ptr b i) h=some (.bool v):=by
 rw [aj hb,uK,getElem?_map,hv];rfl
theorem Je{i:Nat}{v:Bool}(hb:h.get b=some (.cells (d.map bv)))(hi:i<d.length):aS 1 (.ptr b i) (.bool v) h=some (h.set b (.cells ((d.set i v).map bv))):=by
 rw [cq (n:=1) hb rfl rfl (by simp;omega),map_set];rfl
theorem WD(n:Nat):jf [.bool false] n=(replicate n false).map bv:=by
 induction n with
 |zero=>rfl
 |succ n ih=>rw [jf,ih];rfl
theorem MM(hn:n<=1000000)(h:Heap):gI 1 1 [.bool false] (.int .i64 (n:Int)) (.int .i64 (n:Int)) h=some (.slice h.next 0 n 1,h.alloc (.cells ((replicate n false).map bv))):=by
 have:((n:Int))<=140737488355328:=by omega
 simp [gI,za,this,WD]
def oV(n:Nat):List (Sl Int)->List Bool->List Bool
 |[],d=>d
 |t :: ts,d=>oV n ts (d.set (nA n t.l) true)
theorem NT{l:List (Sl Int)}{i:Nat}{t:Sl Int}(ht:l[i]?=some t)(d:List Bool):oV n (l.drop i) d=oV n (l.drop (i+1)) (d.set (nA n t.l) true):=by
 have h1:=(jJ.1 ht).1;rw [drop_eq_getElem_cons h1];rw [ep h1] at ht;cases ht;rfl
theorem Dx(n:Nat):∀ (l:List (Sl Int)) (d:List Bool),(oV n l d).length=d.length
 |[],_=>rfl
 |t :: l,d=>by rw [oV,Dx n l];simp
def bitsOf(n k:Nat)(ts:List (Sl Int)):List Bool:=oV n ts (replicate (n ^ k) false)
theorem Lf(n k:Nat)(ts:List (Sl Int)):(bitsOf n k ts).length=n ^ k:=by rw [bitsOf,Dx];simp
structure ei (D:b6->Option (Nat×List Bool)) (h:Heap) (B lo:Nat):Prop where
 ex:∃ es ck m,h.get B=some (.map es ck)/\tQ es m/\∀ nm,m.find nm=(D nm).map fun p=>.slice p.1 0 p.2.length 1
 FU:∀ nm p,D nm=some p->lo<=p.1/\p.1<h.next/\p.1≠B/\h.get p.1=some (.cells (p.2.map bv))
 inj:∀ nm nm' p p',D nm=some p->D nm'=some p'->p.1=p'.1->nm=nm'
 lt:B<h.next
theorem ei.ext{lo:Nat}(b:ei D h B lo)(hx:bu h h'):ei D h' B lo:=by
 obtain ⟨es,ck,m,h1,h2,h3⟩:=b.ex;refine ⟨⟨es,ck,m,by rw [hx.get _ b.lt];exact h1,h2,h3⟩,fun nm p hp=>?_,b.inj,Nat.lt_of_lt_of_le b.lt hx.next⟩;obtain ⟨q1,q2,q3,q4⟩:=b.FU nm p hp;exact ⟨q1,Nat.lt_of_lt_of_le q2 hx.next,q3,by rw [hx.get _ q2];exact q4⟩
def bH(r:Rel):b6×Int×List (List Int):=(r.name,r.arity,r.aN.l.map Sl.l)
abbrev NU:=b6×Int×List (List Int)
def ku(d:NU):b6×Int:=(d.1,d.2.1)
def kX(D:b6->Option (Nat×List Bool))(nm:b6)(b:Nat)(d:List Bool):b6->Option (Nat×List Bool):=fun j=>if j=nm then some (b,d) else D j
theorem ei.set{D:b6->Option (Nat×List Bool)}{h:Heap}{B lo:Nat}(H:ei D h B lo){nm:b6}{p:Nat×List Bool}(hp:D nm=some p){d:List Bool}(hd:d.length=p.2.length):ei (kX D nm p.1 d) (h.set p.1 (.cells (d.map bv))) B lo:=by
 obtain ⟨es,ck,m,h1,h2,h3⟩:=H.ex;obtain ⟨k1,k2,k3,k4⟩:=H.FU nm p hp;refine ⟨⟨es,ck,m,by rw [Heap.aK,if_neg (Ne.symm k3)];exact h1,h2,fun j=>?_⟩,fun j q hq=>?_,fun j j' q q' hq nU WE=>?_,by rw [Heap.bl];exact H.lt⟩
 ·rw [h3];unfold kX;by_cases e:j=nm
  ·subst e;rw [if_pos rfl,hp,map_some,map_some,hd]
  ·rw [if_neg e]
 ·unfold kX at hq;by_cases e:j=nm
  ·rw [if_pos e] at hq;cases hq;exact ⟨k1,by rw [Heap.bl];exact k2,k3,by rw [Heap.aK,if_pos rfl]⟩
  ·rw [if_neg e] at hq;obtain ⟨q1,q2,q3,q4⟩:=H.FU j q hq;exact ⟨q1,by rw [Heap.bl];exact q2,q3,by rw [Heap.aK,if_neg (fun e'=>e (H.inj j nm q p hq hp e'))];exact q4⟩
 ·unfold kX at hq nU;by_cases e:j=nm
  ·by_cases e':j'=nm
   ·rw [e,e']
   ·rw [if_pos e] at hq;rw [if_neg e'] at nU;cases hq;exact absurd (H.inj nm j' p q' hp nU WE).symm e'
  ·by_cases e':j'=nm
   ·rw [if_neg e] at hq;rw [if_pos e'] at nU;cases nU;exact absurd (H.inj j nm q p hq hp WE) e
   ·rw [if_neg e] at hq;rw [if_neg e'] at nU;exact H.inj j j' q q' hq nU WE
theorem Lg{R:AV}(hS:h.get S=some (.cells [.int .i64 (n:Int),R]))(h1:1<=n){x:Sl Int}(hx:x.l.length<=12)(hc:n ^ x.l.length<=4096)(hb:jC n x.l=true)
  (hK:K (.ret (.int .i64 ((nA n x.l:Nat):Int))) h=true):Sem TP 101 [.ptr S 0,an encI 1 x] h K:=by
 have hbig:x.l.length<=cN:=by unfold cN;omega
 refine F.nq ?_;rw [F.nE];simp only [aR,reduceAdd,reduceEqDiff,reduceIte];refine aE 0 x.l.length (zero_le _) (fun i e h'=>h'=h/\e 0 = .ptr S 0/\e 5 = .int .i64 ((nA n (x.l.take i):Nat):Int)/\e 8=an encI 1 x/\e 9 = .int .i64 (x.l.length:Int)/\e 10 = .int .i64 (i:Int)) ⟨rfl,rfl,rfl,rfl,rfl,rfl⟩ ?_ ?_
 ·rintro i e h' _ hi ⟨rfl,e0,e5,e8,e9,kM⟩ K' hn fK hr hp;have hv:x.l[i]?=some x.l[i]:=ep hi;rw [F.c8.aT];simp only [e0,e5,e8,e9,kM,aR,reduceAdd,reduceEqDiff,reduceIte,ct,aj hS,bh hi,aW x hi,ja hv,(yL hb h1 hc hv).1,(yL hb h1 hc hv).2,aI hi hbig];exact hn _ _ ⟨rfl,e0,rfl,e8,e9,rfl⟩
 ·rintro e h' ⟨rfl,e0,e5,e8,e9,kM⟩ K' fK;rw [F.c8.aT];simp only [e9,kM,aR,reduceAdd,reduceEqDiff,reduceIte,aX];rw [fK,F.c8.aF];simp only [e5,bO,reduceEqDiff,reduceIte];rw [kC (dL _)];exact hK
def ej(vs:List Int)(ps:List Nat):List Int:=ps.map fun p=>vs.getD p 0
theorem MN(hV:h.get V=some (.cells (vs.map iv)))(WG:V<h.next)(hn:n=vs.length){ps:List Nat}{x:Sl Int}(hxp:x.l=ps.map fun (p:Nat)=>(p:Int))(wI:∀ p ∈ ps,p<vs.length)(sX:ps.length<=1000000)
  (hK:∀ h',h'.get h.next=some (.cells ((ej vs ps).map iv))->bu h h'->h.next<h'.next->K (.ret (.slice h.next 0 ps.length 1)) h'=true):Sem TP 121 [.slice V 0 n 1,an encI 1 x] h K:=by
 subst hn;have XY:ps.length<=cN:=by unfold cN;omega
 have hl:x.l.length=ps.length:=by rw [hxp];simp
 refine F.CW ?_;rw [F.EK];simp only [aR,reduceAdd,reduceEqDiff,reduceIte,hl,BU sX];have g0:=aA h (.cells ((replicate ps.length (0:Int)).map iv));have x0:=bu.alloc h (.cells ((replicate ps.length (0:Int)).map iv));have n0:(h.alloc (.cells ((replicate ps.length (0:Int)).map iv))).next=h.next+1:=Heap.aM _ _
 generalize h.alloc (.cells ((replicate ps.length (0:Int)).map iv))=H at g0 x0 n0 ⊢
 refine aE 0 ps.length (zero_le _) (fun i e h'=>∃ d:List Int,d.length=ps.length/\d.take i=(ej vs ps).take i/\h'.get h.next=some (.cells (d.map iv))/\bu h h'/\h.next<h'.next /\
  e 0 = .slice V 0 vs.length 1/\e 5 = .slice h.next 0 ps.length 1/\e 11=an encI 1 x/\e 12 = .int .i64 (ps.length:Int)/\e 13 = .int .i64 (i:Int)) ⟨replicate ps.length 0,by simp,rfl,g0,x0,by omega,rfl,rfl,rfl,rfl,rfl⟩ ?_ ?_
 ·rintro i e h' _ hi ⟨d,dl,dt,q0,qx,qn,e0,e5,qY,BA,qi⟩ K' hn hx hr hp;have hv:ps[i]?=some ps[i]:=ep hi;generalize ps[i]=p at hv;have FB:x.l[i]?=some (p:Int):=by rw [hxp,getElem?_map,hv];rfl
  have XS:=wI p (ig hv);have hw:vs[p]?=some (vs.getD p 0):=by rw [getD_eq_getElem?_getD,ep XS];rfl
  have qV:h'.get V=some (.cells (vs.map iv)):=by rw [qx.get V WG];exact hV
  have i1:=aW (enc:=encI) (sz:=1) (k:=.i64) x (i:=i) (by rw [hl];exact hi);have l1:=fun h=>ja (x:=x) FB (h:=h);rw [F.iN.aT];simp only [e0,e5,qY,BA,qi,aR,reduceAdd,reduceEqDiff,reduceIte,bh hi,i1,l1,nF XS,nN qV hw,nF hi,yH q0 (show i<d.length by omega),aI hi XY];refine hn _ _ ⟨d.set i (vs.getD p 0),by simp [dl],?_,by rw [Heap.aK,if_pos rfl],qx.set (dL _) _,by rw [Heap.bl];exact qn,e0,e5,qY,BA,rfl⟩;have hpk:(ej vs ps)[i]?=some (vs.getD p 0):=by unfold ej;rw [getElem?_map,hv];rfl
  rw [take_add_one,take_add_one,hpk,take_set_of_le (dL _),dt,getElem?_set,if_pos rfl,if_pos (by omega)]
 ·rintro e h' ⟨d,dl,dt,q0,qx,qn,e0,e5,qY,BA,qi⟩ K' hx;rw [F.iN.aT];simp only [BA,qi,aR,reduceAdd,reduceEqDiff,reduceIte,aX];rw [hx,F.iN.aF];simp only [e5,bO,reduceEqDiff,reduceIte]
  have:d=ej vs ps:=by
   have h1:d.take ps.length=d:=kC (by omega);have h2:(ej vs ps).take ps.length=ej vs ps:=kC (by simp [ej]);rw [<- h1,dt,h2]
  rw [this] at q0;exact hK h' q0 qx qn
theorem AN{T:Nat}{R:AV}(hS:h.get S=some (.cells [.int .i64 (n:Int),R]))(h1:1<=n){t:List Int}(hT:h.get T=some (.cells (t.map iv)))(hx:t.length<=12)(hc:n ^ t.length<=4096)(hb:jC n t=true)
  (hK:K (.ret (.int .i64 ((nA n t:Nat):Int))) h=true):Sem TP 101 [.ptr S 0,.slice T 0 t.length 1] h K:=by
 have hbig:t.length<=cN:=by unfold cN;omega
 have hl:∀ h,bW .slice (.slice T 0 t.length 1) h=some (.int .i64 (t.length:Int)):=fun _=>rfl;refine F.nq ?_;rw [F.nE];simp only [aR,reduceAdd,reduceEqDiff,reduceIte,hl];refine aE 0 t.length (zero_le _) (fun i e h'=>h'=h/\e 0 = .ptr S 0/\e 5 = .int .i64 ((nA n (t.take i):Nat):Int)/\e 8 = .slice T 0 t.length 1/\e 9 = .int .i64 (t.length:Int)/\e 10 = .int .i64 (i:Int)) ⟨rfl,rfl,rfl,rfl,rfl,rfl⟩ ?_ ?_
 ·rintro i e h' _ hi ⟨rfl,e0,e5,e8,e9,kM⟩ K' hn fK hr hp;have hv:t[i]?=some t[i]:=ep hi;rw [F.c8.aT];simp only [e0,e5,e8,e9,kM,aR,reduceAdd,reduceEqDiff,reduceIte,ct,aj hS,bh hi,nF hi,nN hT hv,(yL hb h1 hc hv).1,(yL hb h1 hc hv).2,aI hi hbig];exact hn _ _ ⟨rfl,e0,rfl,e8,e9,rfl⟩
 ·rintro e h' ⟨rfl,e0,e5,e8,e9,kM⟩ K' fK;rw [F.c8.aT];simp only [e9,kM,aR,reduceAdd,reduceEqDiff,reduceIte,aX];rw [fK,F.c8.aF];simp only [e5,bO,reduceEqDiff,reduceIte];rw [kC (dL _)];exact hK
def eR(D:b6->Option (Nat×List Bool))(nm:b6)(r:Nat):Bool:=match D nm with|some p=>p.2.getD r false|none=>false
theorem ei.look{lo:Nat}(b:ei D h B lo)(hp:D nm=some p):dR .string .ax false (.map B) (.str nm) h=some (.slice p.1 0 p.2.length 1):=by
 obtain ⟨es,ck,m,h1,h2,h3⟩:=b.ex;rw [Jd h1 h2,h3,hp];rfl
def iV(n:Nat)(look:b6->Nat->Bool)(c:eP)(t:List Int):Bool:=
 (if c.kind=0 then look c.name (nA n t) else if c.kind=1 then decide (t.getD 0 0=t.getD 1 0) else decide (t.getD 0 0<t.getD 1 0)) != c.neg
theorem Jf{lo T:Nat}(hS:h.get S=some (.cells [.int .i64 (n:Int),.map B]))(hD:ei D h B lo)(n1:1<=n){c:eP}{t:List Int}(hT:h.get T=some (.cells (t.map iv)))(hTn:T<h.next)(TQ:S<h.next)
  (ht:t.length<=12) (hb:jC n t=true) (hc:c.kind=0->n ^ t.length<=4096/\∃ p,D c.name=some p/\p.2.length=n ^ t.length) (hk:c.kind=1\/c.kind=2->t.length=2) (hkk:c.kind=0\/c.kind=1\/c.kind=2)
  (hK:∀ h',bu h h'->K (.ret (.bool (iV n (eR D) c t))) h'=true):Sem TP 158 [.ptr S 0,.agg [.int .i64 c.kind,.bool c.neg,.str c.name,an encS 1 c.args],.slice T 0 t.length 1] h K:=by
 refine F.sC ?_;rw [F.tE];have hbx:eZ (.agg [.int .i64 c.kind,.bool c.neg,.str c.name,an encS 1 c.args])=some (bL c):=cT (iC c);have g0:(Heap.alloc h (.cells (bL c))).get h.next=some (.cells (bL c)):=aA _ _
 have gx:bu h (Heap.alloc h (.cells (bL c))):=bu.alloc _ _;simp only [hbx,aq];generalize (Heap.alloc h (.cells (bL c)))=H at g0 gx ⊢;have gS:H.get S=some (.cells [.int .i64 (n:Int),.map B]):=by rw [gx.get S TQ];exact hS
 have gT:H.get T=some (.cells (t.map iv)):=by rw [gx.get T hTn];exact hT
 have gD:=hD.ext gx;simp only [aR,reduceAdd,reduceEqDiff,reduceIte,aj g0,bL,cA];by_cases k0:c.kind=0
 ·obtain ⟨Ff,p,hp,sX⟩:=hc k0;have Fg:nA n t<p.2.length:=by rw [sX];exact xm hb
  have oW:p.2[nA n t]?=some (p.2.getD (nA n t) false):=by rw [getD_eq_getElem?_getD,ep Fg];rfl
  obtain ⟨_,_,_,gp⟩:=gD.FU c.name p hp;simp only [fE k0,aL,aR,reduceAdd,reduceEqDiff,reduceIte,ct,aj gS,aj g0,bL,gD.look hp];refine ah (AN gS n1 gT ht Ff hb ?_);simp only [aR,reduceAdd,reduceEqDiff,reduceIte,aj gS,aj g0,bL,gD.look hp,AV.beq_refl,Bool.and_self,Bool.and_true,if_true,nF Fg,Hy gp oW,BS];have hv:iV n (eR D) c t = !(p.2.getD (nA n t) false==c.neg):=by unfold iV eR;rw [if_pos k0,hp];rfl
  rw [<- hv];exact hK H gx
 ·have h2:t.length=2:=hk (hkk.resolve_left k0);have v0:t[0]?=some (t.getD 0 0):=by rw [getD_eq_getElem?_getD,ep (by omega:0<t.length)];rfl
  have v1:t[1]?=some (t.getD 1 0):=by rw [getD_eq_getElem?_getD,ep (by omega:1<t.length)];rfl
  have i0:dH 1 (.slice T 0 t.length 1) (.int .i64 0)=some (.ptr T 0):=nF (i:=0) (by omega);have i1:dH 1 (.slice T 0 t.length 1) (.int .i64 1)=some (.ptr T 1):=nF (i:=1) (by omega);simp only [eT k0,aJ];by_cases k1:c.kind=1
  ·simp only [fE k1,aL,i0,i1,nN gT v0,nN gT v1,aR,reduceAdd,reduceEqDiff,reduceIte,aj g0,bL,cA,BS];have hv:iV n (eR D) c t = !(decide (t.getD 0 0=t.getD 1 0)==c.neg):=by unfold iV;rw [if_neg k0,if_pos k1];rfl
   rw [<- hv];exact hK H gx
  ·have k2:c.kind=2:=(hkk.resolve_left k0).resolve_left k1;simp only [eT k1,aJ,fE k2,aL,i0,i1,nN gT v0,nN gT v1,aR,reduceAdd,reduceEqDiff,reduceIte,aj g0,bL,BS];have hv:iV n (eR D) c t = !(decide (t.getD 0 0<t.getD 1 0)==c.neg):=by unfold iV;rw [if_neg k0,if_neg k1];rfl
   rw [<- hv];exact hK H gx
theorem NV(hx:x.l.length<=cN)(hs:s ∈ x.l)(hK:K (.ret (.int .i64 (x.l.idxOf s:Int))) h=true):Sem TP 145 [an encS 1 x,.str s] h K:=by
 refine F.iH ?_;rw [F.iQ];simp only [aR,reduceAdd,reduceEqDiff,reduceIte];refine aE 0 x.l.length (zero_le _) (fun i e h'=>h'=h/\e 0=an encS 1 x/\e 1 = .str s/\e 7 = .int .i64 (x.l.length:Int)/\e 8 = .int .i64 (i:Int)/\i<=x.l.idxOf s) ⟨rfl,rfl,rfl,rfl,rfl,zero_le _⟩ ?_ ?_
 ·rintro i e h' _ hi ⟨rfl,e0,e1,e7,e8,ht⟩ K' hn fK hr Cm;have hv:x.l[i]?=some x.l[i]:=ep hi;have hlt:x.l.idxOf s<x.l.length:=idxOf_lt_length_of_mem hs;rw [F.bA.aT];simp only [e0,e1,e7,e8,aR,reduceAdd,reduceEqDiff,reduceIte,bh hi,aW x hi,jw hv,rM];by_cases hq:s=x.l[i]
  ·simp only [fE hq,aL];rw [hr,F.bA.bB]
   have:x.l.idxOf s=i:=by
    refine Nat.le_antisymm ?_ ht;refine Nat.le_of_not_lt fun h=>?_;have h2:=not_of_lt_findIdx (p:=fun a=>a==s) (xs:=x.l) (i:=i) h;simp [<- hq] at h2
   rw [this] at hK;exact hK
  ·simp only [eT hq,aJ,aI hi hx,aq];refine hn _ _ ⟨rfl,e0,e1,e7,rfl,?_⟩;refine Nat.lt_of_le_of_ne ht fun h=>?_;have h3:x.l[x.l.idxOf s]=s:=getElem_idxOf hlt;exact hq (by rw [<- h3];congr 1;exact h.symm)
 ·rintro e h' ⟨rfl,e0,e1,e7,e8,ht⟩ K' fK;have hlt:x.l.idxOf s<x.l.length:=idxOf_lt_length_of_mem hs;omega
def placesOf(vars xs:List b6):List Nat:=xs.map fun s=>vars.idxOf s
theorem Jg{vars:Sl b6}(hV:h.get V=some (.cells [an encS 1 vars]))(WG:V<h.next)(lY:∀ s ∈ xs.l,s ∈ vars.l)(hx:xs.l.length<=1000000)(hv:vars.l.length<=cN)
  (hK:∀ a h',Own encI 1 h.next h' a ((placesOf vars.l xs.l).map fun (p:Nat)=>(p:Int))->bu h h'->K (.ret a) h'=true):Sem TP 144 [an encS 1 xs,.ptr V 0] h K:=by
 have MO:xs.l.length<=cN:=by unfold cN;omega
 refine F.wX ?_;rw [F.yy];simp only [aR,reduceAdd,reduceEqDiff,reduceIte];refine aE 0 xs.l.length (zero_le _) (fun i e h'=>∃ a,Own encI 1 h.next h' a ((placesOf vars.l (xs.l.take i)).map fun (p:Nat)=>(p:Int))/\bu h h'/\e 1 = .ptr V 0/\e 4=a/\e 7=an encS 1 xs/\e 8 = .int .i64 (xs.l.length:Int)/\e 9 = .int .i64 (i:Int)) ⟨.ax,.nil,bu.refl _,rfl,rfl,rfl,rfl,rfl⟩ ?_ ?_
 ·rintro i e h' _ hi ⟨a,o,qx,e1,e4,e7,e8,e9⟩ K' hn fK hr hp;have hs:xs.l[i]?=some xs.l[i]:=ep hi;generalize xs.l[i]=s at hs;have qV:h'.get V=some (.cells [an encS 1 vars]):=by rw [qx.get V WG];exact hV
  rw [F.fq.aT];simp only [e1,e4,e7,e8,e9,aR,reduceAdd,reduceEqDiff,reduceIte,bh hi,aW xs hi,jw hs,aj qV];refine ah (NV hv (lY s (ig hs)) ?_);obtain ⟨a2,h2,p1,p2,p3,p4,p5,p6⟩:=o.push nk Jb qx.next (bytes:=8) (by have:=length_take_le i xs.l;simp only [placesOf,length_map];unfold cI;omega) (vars.l.idxOf s:Int)
  simp only [aR,reduceAdd,reduceEqDiff,reduceIte,e4,Qb,p1,e9,aI hi MO];refine hn _ _ ⟨a2,?_,p5 h qx (dL _),e1,rfl,e7,e8,rfl⟩;have:placesOf vars.l (xs.l.take (i+1))=placesOf vars.l (xs.l.take i)++[vars.l.idxOf s]:=by unfold placesOf;rw [take_add_one,hs];simp
  rw [this];simpa using p2
 ·rintro e h' ⟨a,o,qx,e1,e4,e7,e8,e9⟩ K' fK;rw [F.fq.aT];simp only [e8,e9,aR,reduceAdd,reduceEqDiff,reduceIte,aX];rw [fK,F.fq.aF];rw [kC (dL _)] at o;simp only [e4,bO,reduceEqDiff,reduceIte];exact hK a h' o qx
abbrev RW:=Option (Nat×List Int)
def RW.av:RW->AV
 |none=>.ax
 |some p=>.slice p.1 0 p.2.length 1
def RW.l:RW->List Int
 |none=>[]
 |some p=>p.2
def yN(w:RW):List AV:=[w.av]
theorem Jh(w:RW):(yN w).length=1:=rfl
theorem Qg(w:RW):bw (yN w)=true:=by cases w<;>rfl
theorem abi(w:RW):gd [.ax] [(0,1)] [w.av]=some (yN w):=by cases w<;>rfl
theorem Qh{l:List Int}(o:Own encI 1 k h a l):∃ w:RW,a=w.av/\w.l=l/\∀ p,w=some p->k<=p.1/\p.1<h.next/\h.get p.1=some (.cells (p.2.map iv)):=by
 cases o with
 |nil=>exact ⟨none,rfl,rfl,fun p hp=>by cases hp⟩
 |row b l h1 h2 h3=>exact ⟨some (b,l),rfl,rfl,fun p hp=>by cases hp;exact ⟨h1,h2,by rw [tO];exact h3⟩⟩
theorem row_one{enc:α->List AV}(he:∀ x,(enc x).length=sz){v:α}(hb:h.get b=some (.cells (enc v))):Row enc sz h (.slice b 0 1 sz) [v]:=by
 refine ⟨rfl,?_⟩;have hl:(enc v).length=sz:=he v;simp only [iz,hb,if_true,length_singleton,Nat.one_mul,Nat.zero_add,hl,dL,drop_zero];rw [<- hl,take_length];simp
structure HT (k:Nat) (h:Heap) (cW lW:AV) (ws:List RW) (ls:List Int) (held:List RW):Prop where
 oc:Own yN 1 k h cW ws
 ol:Own encI 1 k h lW ls
 ok:∀ w ∈ held,∀ p,w=some p->k<=p.1/\p.1<h.next/\h.get p.1=some (.cells (p.2.map iv))/\cD cW≠some p.1/\cD lW≠some p.1
 sep:∀ b,cD cW=some b->cD lW≠some b
theorem HT.ext{k:Nat}{h h':Heap}{cW lW:AV}{ws:List RW}{ls:List Int}{held:List RW}(t:HT k h cW lW ws ls held)(hx:bu h h'):HT k h' cW lW ws ls held:=
 ⟨t.oc.ext hx,t.ol.ext hx,fun w hw p hp=>by
  obtain ⟨q1,q2,q3,q4⟩:=t.ok w hw p hp
  exact ⟨q1,Nat.lt_of_lt_of_le q2 hx.next,by rw [hx.get _ q2];exact q3,q4⟩,t.sep⟩
theorem HT.hold{ws:List RW}{ls:List Int}{held:List RW}(t:HT k h cW lW ws ls held){w:RW}(hj:∀ p,w=some p->j<=p.1/\k<=p.1/\p.1<h.next/\h.get p.1=some (.cells (p.2.map iv)))
  (hc:∀ b,cD cW=some b->b<j) (hl:∀ b,cD lW=some b->b<j):HT k h cW lW ws ls (held++[w]):=
 ⟨t.oc,t.ol,fun v hv p hp=>by
  rcases mem_append.1 hv with hv|hv
  ·exact t.ok v hv p hp
  ·rw [mem_singleton] at hv;subst hv;obtain ⟨q1,q2,q3,q4⟩:=hj p hp
   exact ⟨q2,q3,q4,fun h=>by have:=hc _ h;omega,fun h=>by have:=hl _ h;omega⟩,t.sep⟩
theorem HT.low{ws:List RW}{ls:List Int}{held:List RW}(t:HT k h cW lW ws ls held){d:Nat}(hd:d<k)(x:j5):HT k (h.set d x) cW lW ws ls held:=
 ⟨t.oc.kL hd x,t.ol.kL hd x,fun w hw p hp=>by
  obtain ⟨q1,q2,q3,q4⟩:=t.ok w hw p hp
  exact ⟨q1,by rw [Heap.bl];exact q2,by rw [Heap.aK,if_neg (by omega)];exact q3,q4⟩,t.sep⟩
theorem HT.push{ws:List RW}{ls:List Int}{held:List RW}(t:HT k h cW lW ws ls held)(hk:k<=h.next)(hw:ws.length<=1000000)(hl:ls.length<=1000000)(w:RW)(x:Int) :
  ∃ c' l' h2 h3,b7 1 24 cW (.slice h.next 0 1 1) ((h.alloc (.cells (yN w))).alloc (.cells (encI x)))=some (c',h2)/\b7 1 8 lW (.slice (h.next+1) 0 1 1) h2=some (l',h3) /\
   HT k h3 c' l' (ws++[w]) (ls++[x]) held/\(∀ c,c<k->h2.get c=h.get c/\h3.get c=h.get c)/\h.next<=h3.next:=by
 have g0:((h.alloc (.cells (yN w))).alloc (.cells (encI x))).get h.next=some (.cells (yN w)):=by
  rw [Heap.aV,Heap.aM,if_neg (by omega)];exact aA _ _
 have g1:((h.alloc (.cells (yN w))).alloc (.cells (encI x))).get (h.next+1)=some (.cells (encI x)):=aA _ _;have gx:bu h ((h.alloc (.cells (yN w))).alloc (.cells (encI x))):=(bu.alloc _ _).trans (bu.alloc _ _);have gn:((h.alloc (.cells (yN w))).alloc (.cells (encI x))).next=h.next+2:=rfl
 generalize ((h.alloc (.cells (yN w))).alloc (.cells (encI x)))=H at g0 g1 gx gn ⊢;have tH:=t.ext gx;have cge:∀ b,cD cW=some b->k<=b/\b<h.next:=fun b hb=>⟨t.oc.ge hb,t.oc.lt hb⟩
 have lge:∀ b,cD lW=some b->k<=b/\b<h.next:=fun b hb=>⟨t.ol.ge hb,t.ol.lt hb⟩
 obtain ⟨c',h2,p1,p2,p3,p4,p5⟩:=tH.oc.append Jh Qg (row_one Jh g0) (by omega) (bytes:=24) (by simp only [length_singleton];unfold cI;omega);have abj:=p5 (by simp);have e1:h2.get (h.next+1)=some (.cells (encI x)):=by rw [p3 _ (by omega) (fun hb=>by have:=(cge _ hb).2;omega)];exact g1
 have ol2:Own encI 1 k h2 lW ls:=by
  have o:=tH.ol
  cases o with
  |nil=>exact .nil
  |row b l q1 q2 q3=>exact .row b _ q1 (by omega) (by rw [p3 b q2 (fun hb=>t.sep b hb rfl)];exact q3)
 obtain ⟨l',h3,r1,r2,r3,r4,r5⟩:=ol2.append nk Jb (row_one nk e1) (by omega) (bytes:=8) (by simp only [length_singleton];unfold cI;omega);have abk:=r5 (by simp)
 have oc3:Own yN 1 k h3 c' (ws++[w]):=by
  generalize hL:ws++[w]=L at p2
  cases p2 with
  |nil=>exact .nil
  |row b l q1 q2 q3=>exact .row b _ q1 (by omega) (by rw [r3 b q2 (fun hb=>by have:=(lge _ hb).2;have:=abj b rfl;omega)];exact q3)
 refine ⟨c',l',h2,h3,p1,r1,⟨oc3,r2,fun v hv p hp=>?_,fun b hb ff=>?_⟩,fun c hc=>?_,by omega⟩
 ·obtain ⟨q1,q2,q3,q4,q5⟩:=t.ok v hv p hp;have a1:h2.get p.1=some (.cells (p.2.map iv)):=by rw [p3 _ (by omega) q4,gx.get _ q2];exact q3
  refine ⟨q1,by omega,by rw [r3 _ (by omega) q5];exact a1,fun h=>by have:=abj _ h;omega,fun h=>by have:=abk _ h;omega⟩
 ·have:=p2.lt hb;have:=abk b ff;omega
 ·have a1:h2.get c=h.get c:=by rw [p3 c (by omega) (fun hb=>by have:=(cge _ hb).1;omega),gx.get c (by omega)]
  exact ⟨a1,by rw [r3 c (by omega) (fun hb=>by have:=(lge _ hb).1;omega)];exact a1⟩
theorem Qi:∀ ws:List RW,ws.flatMap yN=ws.map RW.av
 |[]=>rfl
 |w :: ws=>by rw [flatMap_cons,map_cons,Qi ws];rfl
theorem Qj:∀ ws:List RW,(ws.map fun w=>(w.map (·.2):Sl Int)).flatMap cX=ws.map fun w=>an encI 1 (w.map (·.2))
 |[]=>rfl
 |w :: ws=>by rw [map_cons,flatMap_cons,map_cons,Qj ws];rfl
theorem HT.y7{ws:List RW}{ls:List Int}{held:List RW}(t:HT k h cW lW ws ls held)(hs:∀ w ∈ ws,w ∈ held):∃ x:Sl (Sl Int),x.l.map Sl.l=ws.map RW.l/\Fz true h cW (an cX 1 x):=by
 have ny:∀ w ∈ held,Fz true h w.av (an encI 1 (w.map (·.2))):=fun w hw=>by
  cases w with
  |none=>exact .dO rfl
  |some p=>exact yJ (t.ok _ hw p rfl).2.2.1
 obtain ⟨o,_,_,_⟩:=t
 cases o with
 |nil=>exact ⟨none,rfl,.dO rfl⟩
 |row b ws h1 h2 h3=>
  refine ⟨some (ws.map fun w=>(w.map (·.2):Sl Int)),?_,?_⟩
  ·simp only [Sl.KS,List.map_map];refine map_congr_left fun w _=>?_;cases w<;>rfl
  ·have e1:=Qi ws;have e2:=Qj ws;rw [e1] at h3
   have hf:Fz true h (.slice b 0 ws.length 1) (.au (ws.map fun w=>an encI 1 (w.map (·.2))) 0 ws.length 1):=by
    refine .slice b 0 ws.length 1 _ _ h3 (by simp) fun i x y hx hy=>?_;rw [getElem?_map] at hx hy;obtain ⟨w,hw,rfl⟩:=map_eq_some_iff.1 hx;rw [hw] at hy;cases hy;exact ny w (hs w (ig hw))
   have:an cX 1 (some (ws.map fun w=>(w.map (·.2):Sl Int))) = .au (ws.map fun w=>an encI 1 (w.map (·.2))) 0 ws.length 1:=by
    simp only [an,e2,length_map]
   rw [this];exact hf
def mu(xs:List b6):Bool:=xs.all ec&&decide (xs.length<=12)
theorem dM{x:Sl b6}(hx:x.l.length<=cN){h:Heap}{K:Out->Heap->Bool}(hK:K (.ret (.bool (mu x.l))) h=true):Sem TP 154 [an encS 1 x] h K:=by
 refine F.Bd ?_;rw [F.CR];refine aE 0 x.l.length (zero_le _) (fun i e h'=>h'=h/\e 0=an encS 1 x/\e 3 = .int .i64 (i:Int)/\(x.l.take i).all ec=true) ⟨rfl,rfl,rfl,rfl⟩ ?_ ?_
 ·rintro i e h' _ hi ⟨rfl,e0,e3,ht⟩ K' hn fK hr Cm;have hv:x.l[i]?=some x.l[i]:=ep hi;generalize x.l[i]=s at hv;rw [F.dM.aT];simp only [e0,e3,aR,reduceAdd,reduceEqDiff,reduceIte,bh hi,aW x hi,jw hv];refine ah (ef ?_);simp only [aR,reduceAdd,reduceEqDiff,reduceIte]
  cases hq:ec s with
  |false=>
   simp only [Bool.not_false,aL];rw [hr,F.dM.bB];have:mu x.l=false:=by unfold mu;rw [all_false hv hq,Bool.false_and]
   rw [this] at hK;exact hK
  |true=>
   simp only [Bool.not_true,aJ,aI hi hx,aq];exact hn _ _ ⟨rfl,e0,rfl,ju hv ht hq⟩
 ·rintro e h' ⟨rfl,e0,e3,ht⟩ K' fK;rw [F.dM.aT];simp only [e0,e3,aR,reduceAdd,reduceEqDiff,reduceIte,aX];rw [fK,F.dM.aF];simp only [e0,aR,reduceAdd,reduceEqDiff,reduceIte];rw [kC (dL _)] at ht;have:mu x.l=decide ((x.l.length:Int)<=12):=by unfold mu;rw [ht,Bool.true_and];by_cases h:x.l.length<=12<;>simp<;>omega
  rw [this] at hK;exact hK
def tZ(r:aP):List b6:=r.args.l++r.body.l.flatMap fun c=>c.args.l
theorem wo(o a b:List b6):eN o (a++b)=eN (eN o a) b:=by unfold eN;rw [foldl_append]
theorem wq:∀ (cs:List eP) (o:List b6),jZ o cs=eN o (cs.flatMap fun c=>c.args.l)
 |[],o=>rfl
 |c :: cs,o=>by
  rw [flatMap_cons,wo];exact wq cs (eN o c.args.l)
theorem Dy(r:aP):varsOf r=eN [] (tZ r):=by
 unfold varsOf tZ;rw [wo,wq]
theorem Ji{r:aP}(hf:r.mC)(i:Nat):(r.args.l++(r.body.l.take i).flatMap fun c=>c.args.l).length<=3000000:=by
 have:∀ (cs:List eP),(∀ c ∈ cs,c.args.l.length<=1500)->(cs.flatMap fun c=>c.args.l).length<=cs.length*1500:=by
  intro cs
  induction cs with
  |nil=>intro _;simp
  |cons c cs ih=>
   intro h;have h1:=ih fun d hd=>h d (mem_cons_of_mem _ hd);have h2:=h c mem_cons_self;rw [flatMap_cons,length_append,length_cons];omega
 have h1:=this (r.body.l.take i) fun c hc=>hf.2.2 c (mem_of_mem_take hc);have h2:=length_take_le i r.body.l;have h4:=length_take_le' i r.body.l;have:=hf.1;have:=hf.2.1;rw [length_append];omega
theorem bM{r:aP}(hf:r.mC){h:Heap}{K:Out->Heap->Bool}(hK:∀ x:Sl b6,x.l=varsOf r->K (.ret (an encS 1 x)) h=true) :
  Sem TP 43 [.agg [.str r.name,an encS 1 r.args,an bL 4 r.body]] h K:=by
 have AO:r.body.l.length<=cN:=by have:=hf.2.1;unfold cN;omega
 have main:Sem TP 43 [.agg [.str r.name,an encS 1 r.args,an bL 4 r.body]] Heap.empty (fun o h'=>yes (∃ v,∃ x:Sl b6,o = .ret v/\x.l=varsOf r/\Fz true h' v (an encS 1 x))):=by
  refine F.vF ?_;rw [F.wW];have hb:eZ (.agg [.str r.name,an encS 1 r.args,an bL 4 r.body])=some (aO r):=cT (kr r);have ny:gd [] [] []=some []:=rfl;simp only [hb,ny,aq,bU,Heap.aM];have g0:(Heap.alloc (Heap.alloc Heap.empty (.cells (aO r))) (.cells [])).get 0=some (.cells (aO r)):=by simp [Heap.aV,bU]
  have g1:(Heap.alloc (Heap.alloc Heap.empty (.cells (aO r))) (.cells [])).get 1=some (.cells (([]:List b6).flatMap encS)):=by simp [Heap.aV,bU]
  have gn:(Heap.alloc (Heap.alloc Heap.empty (.cells (aO r))) (.cells [])).next=2:=rfl
  generalize (Heap.alloc (Heap.alloc Heap.empty (.cells (aO r))) (.cells []))=H at g0 g1 gn ⊢;have o0:Own encS 1 1 H (.slice (0+1) 0 0 1) []:=.row 1 [] (dL _) (by omega) g1;obtain ⟨a1,h1,p1,p2,p3,p4,p5⟩:=o0.append iE oQ (uY iE r.args H) (by omega) (bytes:=16) (by have:=hf.1;unfold cI;simp only [length_nil];omega);have TN:h1.get 0=some (.cells (aO r)):=by rw [p3 0 (by omega) (fun hb=>by simp [cD] at hb)];exact g0
  simp only [aR,reduceAdd,reduceEqDiff,reduceIte,aj g0,aO];simp only [p1,aR,reduceAdd,reduceEqDiff,reduceIte]
  refine aE 0 r.body.l.length (zero_le _) (fun i e h'=>∃ a,h'.get 0=some (.cells (aO r))/\2<=h'.next/\Own encS 1 1 h' a (r.args.l++(r.body.l.take i).flatMap fun c=>c.args.l)/\e 1 = .ptr 0 0/\e 3=a/\e 4 = .int .i64 (i:Int))
   ⟨a1,TN,by omega,by simpa using p2,rfl,rfl,rfl⟩ ?_ ?_
  ·rintro i e h' _ hi ⟨a,q0,qn,o,e1,e3,e4⟩ K' hn hx hr hp;have hv:r.body.l[i]?=some r.body.l[i]:=ep hi;generalize r.body.l[i]=c at hv;have hc:=hf.2.2 c (ig hv);obtain ⟨a2,h2,s1,s2,s3,s4,s5⟩:=o.append iE oQ (uY iE c.args h') (by omega) (bytes:=16) (by have:=Ji hf i;unfold cI;omega);have ld:∀ j,j<4->∀ h,ag none (.dN (r.body.l.flatMap bL) (i*4+j)) h=(bL c)[j]?:=fun j hj h=>fL iB hv hj;rw [F.bM.aT];simp only [e1,e3,e4,aR,reduceAdd,reduceEqDiff,reduceIte,aj q0,aO,bh hi,aW r.body hi];simp only [aR,reduceAdd,reduceEqDiff,reduceIte,Nat.add_assoc,reduceAdd,ld 3 (by omega),bL,s1,aI hi AO];refine hn _ _ ⟨a2,?_,by omega,?_,e1,rfl,rfl⟩
   ·rw [s3 0 (by omega) (fun hb=>by have:=o.ge hb;omega)];exact q0
   ·rw [take_add_one,hv,flatMap_append,<- append_assoc];simpa using s2
  ·rintro e h' ⟨a,q0,qn,o,e1,e3,e4⟩ K' hx;rw [kC (dL _)] at o;have hal:(tZ r).length<=3000000:=by have:=Ji hf r.body.l.length;rw [kC (dL _)] at this;exact this
   have pG:(tZ r).length<=cN:=by unfold cN;omega
   have o':Own encS 1 1 h' a (tZ r):=o;rw [F.bM.aT];simp only [e1,e4,aR,reduceAdd,reduceEqDiff,reduceIte,aj q0,aO,aX];rw [hx,F.bM.aF]
   refine aE 0 (tZ r).length (zero_le _) (fun i e h2=>∃ b,bu h' h2/\Own encS 1 h'.next h2 b (eN [] ((tZ r).take i))/\e 3=a/\e 5=b/\e 6 = .int .i64 (i:Int))
    ⟨.ax,bu.refl _,by simpa [eN] using Own.nil,by simp only [bO,reduceEqDiff,reduceIte,e3],rfl,rfl⟩ ?_ ?_
   ·rintro i e h2 _ hi ⟨b,x2,ob,e3,e5,e6⟩ K2 hn gm hr hp;have hv:(tZ r)[i]?=some (tZ r)[i]:=ep hi;generalize (tZ r)[i]=s at hv;have oa:=o'.ext x2;obtain ⟨q,_,g1,g2⟩:=tT oa hv
    have hlb:(eN [] ((tZ r).take i)).length<=3000000:=by
     have h1:=oS ((tZ r).take i) [];have h2:=length_take_le' i (tZ r);simp only [length_nil] at h1;omega
    have abl:((eN [] ((tZ r).take i)).any fun x=>x==s)=(eN [] ((tZ r).take i)).any fun x=>s==x:=by
     congr 1;funext x;exact Bool.eq_iff_iff.2 ⟨fun h=>by rw [beq_iff_eq] at h ⊢;exact h.symm,fun h=>by rw [beq_iff_eq] at h ⊢;exact h.symm⟩
    have kD:=AG (o:=[]) hv;unfold Dp at kD;rw [F.bM.dr];simp only [e3,e5,e6,oa.len,aR,reduceAdd,reduceEqDiff,reduceIte,bh hi,g1,g2];refine ah (dx ob (by unfold cN;omega) ?_);rw [abl];simp only [aR,reduceAdd,reduceEqDiff,reduceIte]
    cases hq:(eN [] ((tZ r).take i)).any fun x=>s==x with
    |true=>
     rw [hq,if_pos rfl] at kD;simp only [Bool.not_true,aJ,aI hi pG,aq];exact hn _ _ ⟨b,x2,by rw [kD];exact ob,e3,e5,rfl⟩
    |false=>
     rw [hq,if_neg (by simp)] at kD;obtain ⟨b2,h3,p1,p2,p3,p4,p5,p6⟩:=ob.push iE oQ x2.next (bytes:=16) (by unfold cI;omega) s
     simp only [Bool.not_false,aL,e3,e5,e6,g1,g2,aR,reduceAdd,reduceEqDiff,reduceIte,Vi,p1,aI hi pG];exact hn _ _ ⟨b2,p5 h' x2 (dL _),by rw [kD];exact p2,e3,rfl,rfl⟩
   ·rintro e h2 ⟨b,x2,ob,e3,e5,e6⟩ K2 gm;have oa:=o'.ext x2;rw [F.bM.dr];simp only [e3,e6,oa.len,aR,reduceAdd,reduceEqDiff,reduceIte,aX];rw [gm,F.bM.cz];rw [kC (dL _),<- Dy] at ob;simp only [bO,reduceEqDiff,reduceIte,e5]
    obtain ⟨x,jO,gm⟩:=ob.K7 (fun v y hy=>by
     simp only [encS,mem_cons,not_mem_nil,_root_.or_false] at hy
     subst hy;exact .scalar _ rfl)
    exact cw.2 ⟨b,x,rfl,jO,gm⟩
 refine main.frozen (by have:=fR r;simpa [aO,AV.cL,AV.pure] using this) fun o h' ho=>?_;obtain ⟨v,x,rfl,hx,hfz⟩:=cw.1 ho;exact ⟨v,_,rfl,hfz,hK x hx⟩
def MP(a b:Int):Int:=if b>a then b else a
theorem Jj(a b:Int):vV true (.int .i64 a) [.int .i64 b]=some (.int .i64 (MP a b)):=by simp [vV,Ko,MP]
def iJ(ps:List Nat):Int:=ps.foldl (fun a (p:Nat)=>MP a (p:Int)) (-1)
theorem Qk{t:b6}:s ∈ Dp o t↔s ∈ o\/s=t:=by
 unfold Dp;split
 ·rename_i h;obtain ⟨x,hx,hq⟩:=List.any_eq_true.1 h;rw [beq_iff_eq] at hq;exact ⟨.inl,fun h=>h.elim id fun e=>by rw [e,hq];exact hx⟩
 ·simp
theorem Dz{s:b6}:∀ {l o:List b6},s ∈ eN o l↔s ∈ o\/s ∈ l
 |[],o=>by simp [eN]
 |t :: l,o=>by
  show s ∈ eN (Dp o t) l↔_;rw [Dz,Qk,mem_cons,_root_.or_assoc]
theorem Jk{r:aP}:s ∈ varsOf r↔s ∈ tZ r:=by rw [Dy,Dz];simp
theorem uZ{r:aP}:∀ s ∈ r.args.l,s ∈ varsOf r:=fun s hs=>Jk.2 (mem_append_left _ hs)
theorem zP{r:aP}{c:eP}(hc:c ∈ r.body.l):∀ s ∈ c.args.l,s ∈ varsOf r:=fun s hs=>Jk.2 (mem_append_right _ (mem_flatMap.2 ⟨c,hc,hs⟩))
def jj(vars xs:List b6):List Int:=(placesOf vars xs).map fun (p:Nat)=>(p:Int)
theorem Ql(i n:Int)(nm:b6)(xs:Sl b6)(ys:Sl eP)(w:RW):iw [.int .i64 0,.str [],.ax,.ax,.int .i64 0,.ax,.ax,.ax] [(0,1),(1,3),(4,1),(5,1)] [.int .i64 i,.agg [.str nm,an encS 1 xs,an bL 4 ys],.int .i64 n,w.av]=some (.agg [.int .i64 i,.str nm,an encS 1 xs,an bL 4 ys,.int .i64 n,w.av,.ax,.ax]):=by
 cases xs<;>cases ys<;>cases w<;>rfl
theorem Qm(s:St):dh TP s Tryz.f102.results.toList=(match ag (some 8) (s.env 4) s.h,(some []:Option (List AV)) with|some v,some vs=>some (v :: vs)|_,_=>none):=by kernel_rfl
theorem MQ(a b c d e f g i:AV):jl (some 8) [a,b,c,d,e,f,g,i] 0=some (.agg [a,b,c,d,e,f,g,i]):=rfl
def bR(i:Int)(r:aP)(n:Int)(hd c l:AV):List AV:=[.int .i64 i,.str r.name,an encS 1 r.args,an bL 4 r.body,.int .i64 n,hd,c,l]
theorem Jl(i:Int)(r:aP)(n:Int)(w:RW){c l:AV}(hc:bw [c]=true)(hl:bw [l]=true):bw (bR i r n w.av c l)=true:=by
 have hw:w.av.one=true:=by cases w<;>rfl
 unfold bR;simp only [bw,Bool.and_true] at hc hl ⊢;simp only [gi,hw,hc,hl,Bool.and_true];rfl
theorem Qn{P:Nat}{cs vs:List AV}(hP:h.get P=some (.cells cs))(hc:cs.length=8)(hv:vs.length=8)(h1:bw vs=true):aS 8 (.ptr P 0) (.agg vs) h=some (h.set P (.cells vs)):=by
 rw [cq hP (by exact hv) (by exact h1) (by omega)];congr 1
 match cs,hc,vs,hv with
 |[a,b,c,d,e,f,g,i],_,[a',b',c',d',e',f',g',i'],_=>rfl
set_option maxHeartbeats 2000000 in
theorem cE{i0:Int}{r:aP}(hf:r.mC){h:Heap}{K:Out->Heap->Bool}
  (hK:∀ (hd:Sl Int) (cs:Sl (Sl Int)) (ls:Sl Int),hd.l=jj (varsOf r) r.args.l->cs.l.map Sl.l=r.body.l.map (fun c=>jj (varsOf r) c.args.l)->ls.l=r.body.l.map (fun c=>iJ (placesOf (varsOf r) c.args.l)) ->
   K (.ret (.agg (bR i0 r (varsOf r).length (an encI 1 hd) (an cX 1 cs) (an encI 1 ls)))) h=true) :
  Sem TP 102 [.int .i64 i0,.agg [.str r.name,an encS 1 r.args,an bL 4 r.body]] h K:=by
 have AO:r.body.l.length<=cN:=by have:=hf.2.1;unfold cN;omega
 have Ei:(varsOf r).length<=3000000:=by have:=I9 hf r.body.l.length;rw [kC (dL _)] at this;exact this
 have gen:∀ R:Out->Heap->Bool,(∀ (h':Heap) (nG:RW) (cW lW:AV) (cs:Sl (Sl Int)) (ls:Sl Int),Fz true h' nG.av (an encI 1 (nG.map (·.2)))->nG.l=jj (varsOf r) r.args.l->Fz true h' cW (an cX 1 cs)->Fz true h' lW (an encI 1 ls) ->
   cs.l.map Sl.l=r.body.l.map (fun c=>jj (varsOf r) c.args.l)->ls.l=r.body.l.map (fun c=>iJ (placesOf (varsOf r) c.args.l))->R (.ret (.agg (bR i0 r (varsOf r).length nG.av cW lW))) h'=true) ->
   Sem TP 102 [.int .i64 i0,.agg [.str r.name,an encS 1 r.args,an bL 4 r.body]] Heap.empty R:=by
  intro R fin;refine F.zE ?_;rw [F.Bh];have hb:eZ (.agg [.str r.name,an encS 1 r.args,an bL 4 r.body])=some (aO r):=cT (kr r);simp only [hb,aq,bU,Heap.aM];have g0:(Heap.alloc (Heap.alloc Heap.empty (.cells (aO r))) (.cells [.int .i64 0,.str [],.ax,.ax,.int .i64 0,.ax,.ax,.ax])).get 0=some (.cells (aO r)):=by simp [Heap.aV,bU]
  have g1:(Heap.alloc (Heap.alloc Heap.empty (.cells (aO r))) (.cells [.int .i64 0,.str [],.ax,.ax,.int .i64 0,.ax,.ax,.ax])).get 1=some (.cells [.int .i64 0,.str [],.ax,.ax,.int .i64 0,.ax,.ax,.ax]):=by simp [Heap.aV,bU]
  have gn:(Heap.alloc (Heap.alloc Heap.empty (.cells (aO r))) (.cells [.int .i64 0,.str [],.ax,.ax,.int .i64 0,.ax,.ax,.ax])).next=2:=rfl
  generalize (Heap.alloc (Heap.alloc Heap.empty (.cells (aO r))) (.cells [.int .i64 0,.str [],.ax,.ax,.int .i64 0,.ax,.ax,.ax]))=H at g0 g1 gn ⊢;simp only [aj g0,aO,rO,aq];refine ah (de hf fun x jO=>?_);have MO:x.l.length<=cN:=by rw [jO];unfold cN;omega
  obtain ⟨H3,Mr,k2,ko,kn⟩:=mV (h:=H) (z:=.ax) (v:=an encS 1 x) (by cases x<;>rfl) (by simp only [bw,gi];rfl);have q0:H3.get 0=some (.cells (aO r)):=by rw [ko 0 (by omega)];exact g0
  have q1:H3.get 1=some (.cells [.int .i64 0,.str [],.ax,.ax,.int .i64 0,.ax,.ax,.ax]):=by rw [ko 1 (by omega)];exact g1
  rw [gn] at Mr k2;simp only [aR,reduceAdd,reduceEqDiff,reduceIte,gn,Mr];simp only [aR,reduceAdd,reduceEqDiff,reduceIte,aj q0,aj k2,aO,rO,show H3.next=3 by omega];have gx:=bu.alloc H3 (.cells [.int .i64 0,.str [],.ax,.ax,.int .i64 0,.ax,.ax,.ax])
  have g3:(H3.alloc (.cells [.int .i64 0,.str [],.ax,.ax,.int .i64 0,.ax,.ax,.ax])).get 3=some (.cells [.int .i64 0,.str [],.ax,.ax,.int .i64 0,.ax,.ax,.ax]):=by
   have:=aA H3 (.cells [.int .i64 0,.str [],.ax,.ax,.int .i64 0,.ax,.ax,.ax]);rw [show H3.next=3 by omega] at this;exact this
  have gn3:(H3.alloc (.cells [.int .i64 0,.str [],.ax,.ax,.int .i64 0,.ax,.ax,.ax])).next=4:=by rw [Heap.aM];omega
  generalize (H3.alloc (.cells [.int .i64 0,.str [],.ax,.ax,.int .i64 0,.ax,.ax,.ax]))=H4 at gx g3 gn3 ⊢;have p0:H4.get 0=some (.cells (aO r)):=by rw [gx.get 0 (by omega)];exact q0
  have p1:H4.get 1=some (.cells [.int .i64 0,.str [],.ax,.ax,.int .i64 0,.ax,.ax,.ax]):=by rw [gx.get 1 (by omega)];exact q1
  have p2:H4.get 2=some (.cells [an encS 1 x]):=by rw [gx.get 2 (by omega)];exact k2
  refine ah (Jg p2 (by omega) (fun s hs=>by rw [jO];exact uZ s hs) (by have:=hf.1;omega) MO fun a h5 oa x5=>?_);rw [gn3] at oa;obtain ⟨nG,rfl,hdl,hdk⟩:=Qh oa;have r0:h5.get 0=some (.cells (aO r)):=by rw [x5.get 0 (by omega)];exact p0
  have r1:h5.get 1=some (.cells [.int .i64 0,.str [],.ax,.ax,.int .i64 0,.ax,.ax,.ax]):=by rw [x5.get 1 (by omega)];exact p1
  have r2:h5.get 2=some (.cells [an encS 1 x]):=by rw [x5.get 2 (by omega)];exact p2
  have r3:h5.get 3=some (.cells [.int .i64 0,.str [],.ax,.ax,.int .i64 0,.ax,.ax,.ax]):=by rw [x5.get 3 (by omega)];exact g3
  have rn:=x5.next
  have iP:=Qn (vs:=bR i0 r (varsOf r).length nG.av .ax .ax) r3 rfl rfl (Jl _ _ _ _ rfl rfl);have xF:=Ql i0 (varsOf r).length r.name r.args r.body nG;rw [<- jO] at iP xF;simp only [aR,reduceAdd,reduceEqDiff,reduceIte,aj r0,aj r2,aO,rO,AV.beq_refl,Bool.and_self,Bool.and_true,if_true,xF];simp only [bR] at iP;simp only [iP,aR,reduceAdd,reduceEqDiff,reduceIte]
  have t0:HT 4 (h5.set 3 (.cells (bR i0 r x.l.length nG.av .ax .ax))) .ax .ax [] [] [nG]:=
   (HT.low ⟨.nil,.nil,fun w hw p hp=>by
    rw [mem_singleton] at hw;subst hw;obtain ⟨a1,a2,a3⟩:=hdk p hp
    exact ⟨a1,a2,a3,by simp [cD],by simp [cD]⟩,fun b hb=>by simp [cD] at hb⟩ (by omega) _)
  have s0:(h5.set 3 (.cells (bR i0 r x.l.length nG.av .ax .ax))).get 0=some (.cells (aO r)):=by rw [Heap.aK,if_neg (by omega)];exact r0
  have s1:(h5.set 3 (.cells (bR i0 r x.l.length nG.av .ax .ax))).get 1=some (.cells [.int .i64 0,.str [],.ax,.ax,.int .i64 0,.ax,.ax,.ax]):=by rw [Heap.aK,if_neg (by omega)];exact r1
  have s2:(h5.set 3 (.cells (bR i0 r x.l.length nG.av .ax .ax))).get 2=some (.cells [an encS 1 x]):=by rw [Heap.aK,if_neg (by omega)];exact r2
  have s3:(h5.set 3 (.cells (bR i0 r x.l.length nG.av .ax .ax))).get 3=some (.cells (bR i0 r x.l.length nG.av .ax .ax)):=by rw [Heap.aK,if_pos rfl]
  have sn:(h5.set 3 (.cells (bR i0 r x.l.length nG.av .ax .ax))).next=h5.next:=Heap.bl _ _ _
  simp only [bR] at t0 s0 s1 s2 s3 sn;generalize (h5.set 3 (.cells [.int .i64 i0,.str r.name,an encS 1 r.args,an bL 4 r.body,.int .i64 (x.l.length:Int),nG.av,.ax,.ax]))=H6 at t0 s0 s1 s2 s3 sn ⊢;simp only [aj s0,aO,aR,reduceAdd,reduceEqDiff,reduceIte]
  refine aE 0 r.body.l.length (zero_le _) (fun i e h'=>∃ cW lW ws ls,HT 4 h' cW lW ws ls (nG :: ws)/\ws.map RW.l=(r.body.l.take i).map (fun c=>jj (varsOf r) c.args.l)/\ls=(r.body.l.take i).map (fun c=>iJ (placesOf (varsOf r) c.args.l)) /\
   h'.get 1=some (.cells [.int .i64 0,.str [],.ax,.ax,.int .i64 0,.ax,.ax,.ax])/\h'.get 2=some (.cells [an encS 1 x])/\h'.get 3=some (.cells [.int .i64 i0,.str r.name,an encS 1 r.args,an bL 4 r.body,.int .i64 (x.l.length:Int),nG.av,cW,lW])/\4<=h'.next /\
   e 4 = .ptr 1 0/\e 6 = .func 144 [] [.ptr 2 0]/\e 7 = .ptr 3 0/\e 28=an bL 4 r.body/\e 29 = .int .i64 (r.body.l.length:Int)/\e 30 = .int .i64 (i:Int))
   ⟨.ax,.ax,[],[],t0,rfl,rfl,s1,s2,s3,by omega,rfl,rfl,rfl,rfl,rfl,rfl⟩ ?_ ?_
  ·rintro i e h' _ hi ⟨cW,lW,ws,ls,tw,hws,Lh,u1,u2,u3,un,e4,e6,e7,WH,Vk,Vl⟩ K' hn hx hr hp;have hv:r.body.l[i]?=some r.body.l[i]:=ep hi;generalize r.body.l[i]=c at hv;have Hz:=ig hv;have aem:=hf.2.2 c Hz;obtain ⟨H2,qX,c1,co,cn⟩:=cr (h:=h') (zs:=[.int .i64 0,.bool false,.str [],.ax]) (cs:=bL c) (n:=4) rfl rfl (iC c);have x2:bu h' H2:=⟨by omega,fun b hb=>co b (by omega)⟩
   rw [F.cE.aT];simp only [e6,WH,Vk,Vl,aR,reduceAdd,reduceEqDiff,reduceIte,bh hi,aW r.body hi,dm iB hv,qX];simp only [aR,reduceAdd,reduceEqDiff,reduceIte,aj c1,bL,fF,nil_append,cons_append];refine ah (Jg (xs:=c.args) (by rw [x2.get 2 (by omega)];exact u2) (by omega) (fun s hs=>by rw [jO];exact zP Hz s hs) (by omega) MO fun a h3 oa x3=>?_);rw [jO] at oa;obtain ⟨w,rfl,hwl,hwk⟩:=Qh oa;have Qo:=x2.trans x3;have tw3:=tw.ext Qo;have v1:h3.get 1=some (.cells [.int .i64 0,.str [],.ax,.ax,.int .i64 0,.ax,.ax,.ax]):=by rw [Qo.get 1 (by omega)];exact u1
   have v2:h3.get 2=some (.cells [an encS 1 x]):=by rw [Qo.get 2 (by omega)];exact u2
   have v3:h3.get 3=some (.cells [.int .i64 i0,.str r.name,an encS 1 r.args,an bL 4 r.body,.int .i64 (x.l.length:Int),nG.av,cW,lW]):=by rw [Qo.get 3 (by omega)];exact u3
   have vn:=Qo.next
   have twh:HT 4 h3 cW lW ws ls (nG :: ws++[w]):=tw3.hold (j:=H2.next) (fun p hp=>by
    obtain ⟨a1,a2,a3⟩:=hwk p hp
    exact ⟨a1,by omega,a2,a3⟩) (fun b hb=>by have:=tw.oc.lt hb;omega) (fun b hb=>by have:=tw.ol.lt hb;omega)
   have sX:(placesOf (varsOf r) c.args.l).length<=cN:=by unfold placesOf cN;rw [length_map];omega
   have hlen:∀ h,bW .slice w.av h=some (.int .i64 ((placesOf (varsOf r) c.args.l).length:Int)):=fun h=>by rw [oa.len];simp
   simp only [aR,reduceAdd,reduceEqDiff,reduceIte,hlen]
   refine aE 0 (placesOf (varsOf r) c.args.l).length (zero_le _) (fun j e h2=>h2=h3/\e 4 = .ptr 1 0/\e 6 = .func 144 [] [.ptr 2 0]/\e 7 = .ptr 3 0/\e 28=an bL 4 r.body/\e 29 = .int .i64 (r.body.l.length:Int)/\e 30 = .int .i64 (i:Int) /\
    e 10=w.av/\e 11 = .int .i64 (iJ ((placesOf (varsOf r) c.args.l).take j))/\e 39=w.av/\e 40 = .int .i64 ((placesOf (varsOf r) c.args.l).length:Int)/\e 41 = .int .i64 (j:Int)) ⟨rfl,e4,e6,e7,WH,Vk,Vl,rfl,rfl,rfl,rfl,rfl⟩ ?_ ?_
   ·rintro j e h2 _ hj ⟨rfl,e4,e6,e7,WH,Vk,Vl,kM,qY,NW,MR,e41⟩ K2 pH gm rY F5;have RH:(placesOf (varsOf r) c.args.l)[j]?=some (placesOf (varsOf r) c.args.l)[j]:=ep hj;generalize (placesOf (varsOf r) c.args.l)[j]=p at RH;have Sh:((placesOf (varsOf r) c.args.l).map fun (p:Nat)=>(p:Int))[j]?=some (p:Int):=by rw [getElem?_map,RH];rfl
    obtain ⟨b,_,_,i1,_,i3⟩:=oa.get nk Sh;have i3':ag none (.ptr b (j*1)) h2=some (.int .i64 (p:Int)):=i3 0 (by omega);rw [F.cE.dr];simp only [qY,NW,MR,e41,aR,reduceAdd,reduceEqDiff,reduceIte,bh hj,i1,i3',Jj,aI hj sX];refine pH _ _ ⟨rfl,e4,e6,e7,WH,Vk,Vl,kM,?_,NW,MR,rfl⟩;have:iJ ((placesOf (varsOf r) c.args.l).take (j+1))=MP (iJ ((placesOf (varsOf r) c.args.l).take j)) (p:Int):=by unfold iJ;rw [take_add_one,RH];simp
    rw [this];rfl
   ·rintro e h2 ⟨rfl,e4,e6,e7,WH,Vk,Vl,kM,qY,NW,MR,e41⟩ K2 gm;rw [kC (dL _)] at qY;have ajw:ws.length<=1500:=by have h1:=congrArg List.length hws;simp only [length_map] at h1;have h2:=length_take_le' i r.body.l;have:=hf.2.1;omega
    have ajx:ls.length<=1500:=(by rw [Lh,length_map];have h2:=length_take_le' i r.body.l;have:=hf.2.1;omega);obtain ⟨c',l',m2,m3,t1,t2,t3,t4,t5⟩:=twh.push (by omega) (by omega) (by omega) w (iJ (placesOf (varsOf r) c.args.l));have y3:m2.get 3=some (.cells [.int .i64 i0,.str r.name,an encS 1 r.args,an bL 4 r.body,.int .i64 (x.l.length:Int),nG.av,cW,lW]):=by rw [(t4 3 (by omega)).1];exact v3
    have z3:m3.get 3=some (.cells [.int .i64 i0,.str r.name,an encS 1 r.args,an bL 4 r.body,.int .i64 (x.l.length:Int),nG.av,cW,lW]):=(by rw [(t4 3 (by omega)).2];exact v3);obtain ⟨w1,w2⟩:=tW t3.oc;obtain ⟨w3,w4⟩:=tW t3.ol
    have WI:aS 1 (.ptr 3 6) c' m3=some (m3.set 3 (.cells [.int .i64 i0,.str r.name,an encS 1 r.args,an bL 4 r.body,.int .i64 (x.l.length:Int),nG.av,c',lW])):=by
     rw [cq (n:=1) z3 (by rw [w1];rfl) (by rw [w1];exact w2) (by simp),w1];rfl
    have z4:(m3.set 3 (.cells [.int .i64 i0,.str r.name,an encS 1 r.args,an bL 4 r.body,.int .i64 (x.l.length:Int),nG.av,c',lW])).get 3=some (.cells [.int .i64 i0,.str r.name,an encS 1 r.args,an bL 4 r.body,.int .i64 (x.l.length:Int),nG.av,c',lW]):=by rw [Heap.aK,if_pos rfl]
    have TR:aS 1 (.ptr 3 7) l' (m3.set 3 (.cells [.int .i64 i0,.str r.name,an encS 1 r.args,an bL 4 r.body,.int .i64 (x.l.length:Int),nG.av,c',lW]))=some ((m3.set 3 (.cells [.int .i64 i0,.str r.name,an encS 1 r.args,an bL 4 r.body,.int .i64 (x.l.length:Int),nG.av,c',lW])).set 3 (.cells [.int .i64 i0,.str r.name,an encS 1 r.args,an bL 4 r.body,.int .i64 (x.l.length:Int),nG.av,c',l'])):=by
     rw [cq (n:=1) z4 (by rw [w3];rfl) (by rw [w3];exact w4) (by simp),w3];rfl
    rw [F.cE.dr];simp only [MR,e41,aR,reduceAdd,reduceEqDiff,reduceIte,aX];rw [gm,F.cE.cz];simp only [e7,kM,qY,Vl,aR,reduceAdd,reduceEqDiff,reduceIte,aj v3,abi,Qb,Heap.aM];rw [aj (r:=none) (o:=7) (h:=(Heap.alloc h2 (.cells (yN w)))) (cs:=[.int .i64 i0,.str r.name,an encS 1 r.args,an bL 4 r.body,.int .i64 (x.l.length:Int),nG.av,cW,lW]) (by rw [Heap.aV,if_neg (by omega)];exact v3)];simp only [aR,reduceAdd,reduceEqDiff,reduceIte,Qb,Heap.aM,t1,aj y3,AV.beq_refl,Bool.and_self,if_true,t2,WI,TR,aI hi AO];refine hn _ _ ⟨c',l',ws++[w],ls++[iJ (placesOf (varsOf r) c.args.l)],(t3.low (by omega) _).low (by omega) _,?_,?_,?_,?_,by rw [Heap.aK,if_pos rfl],by rw [Heap.bl,Heap.bl];omega,e4,e6,e7,WH,Vk,rfl⟩
    ·rw [map_append,hws,take_add_one,hv,map_append];simp only [map_cons,map_nil,toList_some];rw [hwl];rfl
    ·rw [Lh,take_add_one,hv,map_append];rfl
    ·rw [Heap.aK,if_neg (by omega),Heap.aK,if_neg (by omega),(t4 1 (by omega)).2];exact v1
    ·rw [Heap.aK,if_neg (by omega),Heap.aK,if_neg (by omega),(t4 2 (by omega)).2];exact v2
  ·rintro e h' ⟨cW,lW,ws,ls,tw,hws,Lh,u1,u2,u3,un,e4,e6,e7,WH,Vk,Vl⟩ K' hx;rw [kC (dL _)] at hws Lh;obtain ⟨_,w2⟩:=tW tw.oc;obtain ⟨_,w4⟩:=tW tw.ol;have abn:=Qn (vs:=bR i0 r x.l.length nG.av cW lW) u1 rfl rfl (Jl _ _ _ _ w2 w4);simp only [bR] at abn;rw [F.cE.aT];simp only [Vk,Vl,aR,reduceAdd,reduceEqDiff,reduceIte,aX];rw [hx,F.cE.aF];simp only [e4,e7,aR,reduceAdd,reduceEqDiff,reduceIte,aj u3,MQ,abn,Qm];have tf:=tw.low (by omega:1<4) (.cells [.int .i64 i0,.str r.name,an encS 1 r.args,an bL 4 r.body,.int .i64 (x.l.length:Int),nG.av,cW,lW]);have gf:(h'.set 1 (.cells [.int .i64 i0,.str r.name,an encS 1 r.args,an bL 4 r.body,.int .i64 (x.l.length:Int),nG.av,cW,lW])).get 1=some (.cells [.int .i64 i0,.str r.name,an encS 1 r.args,an bL 4 r.body,.int .i64 (x.l.length:Int),nG.av,cW,lW]):=by rw [Heap.aK,if_pos rfl]
   simp only [bO,reduceEqDiff,reduceIte,e4,aj gf,MQ,aq,oneOf];obtain ⟨cs,XR,cs2⟩:=tf.y7 (fun w hw=>mem_cons_of_mem _ hw)
   obtain ⟨lx,lx1,lx2⟩:=tf.ol.K7 (fun v y hy=>by
    simp only [encI,mem_cons,not_mem_nil,_root_.or_false] at hy
    subst hy;exact .scalar _ rfl)
   have hfz:Fz true (h'.set 1 (.cells [.int .i64 i0,.str r.name,an encS 1 r.args,an bL 4 r.body,.int .i64 (x.l.length:Int),nG.av,cW,lW])) nG.av (an encI 1 (nG.map (·.2))):=by
    cases nG with
    |none=>exact .dO rfl
    |some p=>exact yJ (tf.ok _ mem_cons_self p rfl).2.2.1
   have:=fin _ nG cW lW cs lx hfz (by rw [<- jO];exact hdl) cs2 lx2 (by rw [XR,hws]) (by rw [lx1,Lh]);rw [<- jO] at this;exact this
 have main:=gen (fun o h'=>yes (∃ (nG:RW) (cW lW:AV) (cs:Sl (Sl Int)) (ls:Sl Int),o = .ret (.agg (bR i0 r (varsOf r).length nG.av cW lW))/\Fz true h' nG.av (an encI 1 (nG.map (·.2)))/\nG.l=jj (varsOf r) r.args.l/\Fz true h' cW (an cX 1 cs)/\Fz true h' lW (an encI 1 ls) /\
   cs.l.map Sl.l=r.body.l.map (fun c=>jj (varsOf r) c.args.l)/\ls.l=r.body.l.map (fun c=>iJ (placesOf (varsOf r) c.args.l)))) (fun h' nG cW lW cs ls f1 f2 f3 f4 f5 f6=>cw.2 ⟨nG,cW,lW,cs,ls,rfl,f1,f2,f3,f4,f5,f6⟩)
 refine main.frozen (by have:=fR r;simpa [aO,AV.cL,AV.pure] using this) fun o h' ho=>?_;obtain ⟨nG,cW,lW,cs,ls,rfl,f1,f2,f3,f4,f5,f6⟩:=cw.1 ho
 have fl:lQ true h' (bR i0 r (varsOf r).length nG.av cW lW) (bR i0 r (varsOf r).length (an encI 1 (nG.map (·.2))) (an cX 1 cs) (an encI 1 ls)):=
  .cons (.scalar _ rfl) (.cons (.scalar _ rfl) (.cons (.dO (cj kg _)) (.cons (.dO (cj xh _)) (.cons (.scalar _ rfl) (.cons f1 (.cons f3 (.cons f4 .nil)))))))
 exact ⟨_,_,rfl,.agg _ _ fl.len fl.rel,hK (nG.map (·.2)) cs ls (by rw [<- f2];cases nG<;>rfl) f5 f6⟩
theorem rP(vs:List Int)(ps:List Nat):(ej vs ps).length=ps.length:=by simp [ej]
theorem u0(hb:jC n vs=true){ps:List Nat}(wI:∀ p ∈ ps,p<vs.length):jC n (ej vs ps)=true:=by
 unfold jC at hb ⊢;rw [List.all_eq_true] at hb ⊢;intro v hv;unfold ej at hv;obtain ⟨p,hp,rfl⟩:=mem_map.1 hv;have sX:=wI p hp;refine hb _ ?_;rw [getD_eq_getElem?_getD,ep sX];exact getElem_mem sX
theorem qJ{vars xs:List b6}(h:∀ s ∈ xs,s ∈ vars):∀ p ∈ placesOf vars xs,p<vars.length:=fun p hp=>by
 unfold placesOf at hp;obtain ⟨s,hs,rfl⟩:=mem_map.1 hp;exact idxOf_lt_length_of_mem (h s hs)
structure F9 (n:Nat) (D:b6->Option (Nat×List Bool)) (r:aP):Prop where
 rel:∀ c ∈ r.body.l,c.kind=0->n ^ c.args.l.length<=4096/\∃ p,D c.name=some p/\p.2.length=n ^ c.args.l.length
 two:∀ c ∈ r.body.l,c.kind=1\/c.kind=2->c.args.l.length=2
 kinds:∀ c ∈ r.body.l,c.kind=0\/c.kind=1\/c.kind=2
 arity:∀ c ∈ r.body.l,c.args.l.length<=12
def eO(r:aP)(c:eP):List Nat:=placesOf (varsOf r) c.args.l
def BB(n:Nat)(look:b6->Nat->Bool)(r:aP)(vs:List Int)(upto:Int):Bool:=r.body.l.all fun c=>!decide (iJ (eO r c)=upto)||iV n look c (ej vs (eO r c))
set_option maxHeartbeats 1000000 in
theorem Jm{lo:Nat}{r:aP}{nv:Int}{hd:Sl Int}{cs:Sl (Sl Int)}{ls:Sl Int}(hf:r.mC)(hcs:cs.l.map Sl.l=r.body.l.map (fun c=>jj (varsOf r) c.args.l))(Lh:ls.l=r.body.l.map (fun c=>iJ (placesOf (varsOf r) c.args.l)))
  (hS:h.get S=some (.cells [.int .i64 (n:Int),.map B])) (hD:ei D h B lo) (TQ:S<h.next) (h0:h.get N0=some (.cells [.ptr S 0])) (h0n:N0<h.next) (h1:h.get N1=some (.cells (bR i0 r nv (an encI 1 hd) (an cX 1 cs) (an encI 1 ls)))) (h1n:N1<h.next)
  (h4:h.get N4=some (.cells [.slice V 0 vs.length 1])) (h4n:N4<h.next) (hV:h.get V=some (.cells (vs.map iv))) (WG:V<h.next) (Ei:vs.length=(varsOf r).length) (NI:jC n vs=true) (n1:1<=n) (hk:F9 n D r) {upto:Int}
  (hK:∀ h',bu h h'->K (.ret (.bool (BB n (eR D) r vs upto))) h'=true):Sem TP 157 [.int .i64 upto,.ptr N1 0,.ptr N0 0,.ptr N4 0] h K:=by
 have AO:r.body.l.length<=cN:=by have:=hf.2.1;unfold cN;omega
 have hcl:cs.l.length=r.body.l.length:=by have:=congrArg List.length hcs;simpa using this
 have WJ:ls.l.length=r.body.l.length:=by rw [Lh];simp
 refine F.rK ?_;rw [F.sE];simp only [bR] at h1;simp only [aR,reduceAdd,reduceEqDiff,reduceIte,aj h1]
 refine aE 0 r.body.l.length (zero_le _) (fun i e h'=>bu h h'/\e 0 = .int .i64 upto/\e 1 = .ptr N1 0/\e 2 = .ptr N0 0/\e 3 = .ptr N4 0/\e 10=an bL 4 r.body/\e 11 = .int .i64 (r.body.l.length:Int)/\e 12 = .int .i64 (i:Int) /\
  (r.body.l.take i).all (fun c=>!decide (iJ (eO r c)=upto)||iV n (eR D) c (ej vs (eO r c)))=true) ⟨bu.refl _,rfl,rfl,rfl,rfl,rfl,rfl,rfl,rfl⟩ ?_ ?_
 ·rintro i e h' _ hi ⟨x1,e0,e1,e2,e3,kM,qY,BA,ht⟩ K' hn hx hr hp;have hv:r.body.l[i]?=some r.body.l[i]:=ep hi;generalize r.body.l[i]=c at hv;have Hz:=ig hv;obtain ⟨H2,qX,c1,co,cn⟩:=cr (h:=h') (zs:=[.int .i64 0,.bool false,.str [],.ax]) (cs:=bL c) (n:=4) rfl rfl (iC c);have x2:bu h H2:=x1.trans ⟨by omega,fun b hb=>co b (by omega)⟩;have q1:H2.get N1=some (.cells [.int .i64 i0,.str r.name,an encS 1 r.args,an bL 4 r.body,.int .i64 nv,an encI 1 hd,an cX 1 cs,an encI 1 ls]):=by rw [x2.get _ h1n];exact h1
  have q0:H2.get N0=some (.cells [.ptr S 0]):=by rw [x2.get _ h0n];exact h0
  have q4:H2.get N4=some (.cells [.slice V 0 vs.length 1]):=by rw [x2.get _ h4n];exact h4
  have qV:H2.get V=some (.cells (vs.map iv)):=by rw [x2.get _ WG];exact hV
  have abo:ls.l[i]?=some (iJ (eO r c)):=by rw [Lh,getElem?_map,hv];rfl
  have n1x:=x1.next
  rw [F.cP.aT];simp only [e0,e1,e2,e3,kM,qY,BA,aR,reduceAdd,reduceEqDiff,reduceIte,bh hi,aW r.body hi,dm iB hv,qX];simp only [aR,reduceAdd,reduceEqDiff,reduceIte,aj q1,aW ls (show i<ls.l.length by omega),ja abo,cA];by_cases hu:iJ (eO r c)=upto
  ·have hci:i<cs.l.length:=by omega
   have ny:cs.l[i]?=some cs.l[i]:=ep hci
   have Jn:(cs.l[i]).l=(eO r c).map fun (p:Nat)=>(p:Int):=by
    have h3:(cs.l.map Sl.l)[i]?=some (jj (varsOf r) c.args.l):=(by rw [hcs,getElem?_map,hv];rfl);rw [getElem?_map,ny] at h3;exact Option.some.inj h3
   generalize cs.l[i]=xi at ny Jn;have sX:∀ p ∈ eO r c,p<vs.length:=by rw [Ei];exact qJ (zP Hz)
   have qK:(eO r c).length=c.args.l.length:=by unfold eO placesOf;simp
   simp only [fE hu,aL,aR,reduceAdd,reduceEqDiff,reduceIte,aj q0,aj q4,aj q1,aj c1,bL,Ht,aW cs hci,ir ny];refine ah (MN (ps:=eO r c) qV (by have:=x2.next;omega) rfl Jn sX (by rw [qK];have:=hk.arity c Hz;omega) fun h3 t1 x3 t2=>?_);have c3:h3.get h'.next=some (.cells (bL c)):=by rw [x3.get _ (by omega)];exact c1
   have q03:h3.get N0=some (.cells [.ptr S 0]):=by rw [x3.get _ (by have:=x2.next;omega)];exact q0
   have Qo:=x2.trans x3;simp only [aR,reduceAdd,reduceEqDiff,reduceIte,aj c3,aj q03,bL,Ht,AV.beq_refl,Bool.and_self,Bool.and_true,if_true];have yO:=rP vs (eO r c);have hS3:h3.get S=some (.cells [.int .i64 (n:Int),.map B]):=by rw [Qo.get _ TQ];exact hS
   rw [<- yO];refine ah (Jf (D:=D) (lo:=lo) hS3 (hD.ext Qo) n1 t1 t2 (by have:=Qo.next;omega) (by rw [yO,qK];exact hk.arity c Hz) (u0 NI sX) (fun k0=>by rw [yO,qK];exact hk.rel c Hz k0) (fun NX=>by rw [yO,qK];exact hk.two c Hz NX) (hk.kinds c Hz) fun h5 x5=>?_);simp only [aR,reduceAdd,reduceEqDiff,reduceIte]
   cases hcv:iV n (eR D) c (ej vs (eO r c)) with
   |false=>
    simp only [Bool.not_false,aL];rw [hr,F.cP.bB];have:BB n (eR D) r vs upto=false:=all_false hv (by rw [fE hu,hcv];rfl);rw [this] at hK;exact hK h5 (Qo.trans x5)
   |true=>
    simp only [Bool.not_true,aJ,BA,aI hi AO,aq];exact hn _ _ ⟨Qo.trans x5,e0,e1,e2,e3,kM,qY,rfl,ju hv ht (by rw [hcv,Bool.or_true])⟩
  ·simp only [eT hu,aJ,BA,aI hi AO,aq];exact hn _ _ ⟨x2,e0,e1,e2,e3,kM,qY,rfl,ju hv ht (by rw [eT hu];rfl)⟩
 ·rintro e h' ⟨x1,e0,e1,e2,e3,kM,qY,BA,ht⟩ K' hx;rw [kC (dL _)] at ht;rw [F.cP.aT];simp only [qY,BA,aR,reduceAdd,reduceEqDiff,reduceIte,aX];rw [hx,F.cP.aF];have:BB n (eR D) r vs upto=true:=ht;rw [this] at hK;exact hK h' x1
structure TS (σ:Type) (Ga:σ->Heap->Prop) (qj:σ->b6->Option (Nat×List Bool)) (ua:List Int->σ->σ) (S B n lo base k:Nat) (r:aP) (g:FuncId) (ga gb:List AV) (V0:Nat):Prop where
 n1:1<=n
 xG:n<=64
 sb:S<base
 st:∀ s h,Ga s h->h.get S=some (.cells [.int .i64 (n:Int),.map B])/\ei (qj s) h B lo/\F9 n (qj s) r
 gr:∀ s h h',Ga s h->base<=h.next->(∀ b,b<h.next->b≠V0->h'.get b=h.get b)->h.next<=h'.next->Ga s h'
 run:∀ s h vs K,Ga s h->base<=V0->V0<h.next->h.get V0=some (.cells (vs.map iv))->vs.length=k->jC n vs=true ->
  (∀ h',Ga (ua vs s) h'->(∀ b,base<=b->b<h.next->h'.get b=h.get b)->h.next<=h'.next->K (.ret (.bool true)) h'=true)->Sem TP g (ga++([.slice V0 0 vs.length 1]++gb)) h K
def kY{σ:Type}(qj:σ->b6->Option (Nat×List Bool))(n:Nat)(r:aP)(v:Nat)(go:List Int->σ->List Int×σ)(acc:List Int×σ)(x:Nat):List Int×σ:=
 if BB n (eR (qj acc.2)) r (acc.1.set v (x:Int)) (v:Int)=true then go (acc.1.set v (x:Int)) acc.2 else (acc.1.set v (x:Int),acc.2)
def iy{σ:Type}(qj:σ->b6->Option (Nat×List Bool))(ua:List Int->σ->σ)(n:Nat)(r:aP):Nat->Nat->List Int->σ->List Int×σ
 |0,_,vs,s=>(vs,ua vs s)
 |m+1,v,vs,s=>(List.range n).foldl (kY qj n r v (iy qj ua n r m (v+1))) (vs,s)
theorem rQ(h:jC n vs=true)(v:Nat){x:Nat}(hx:x<n):jC n (vs.set v (x:Int))=true:=by
 unfold jC at h ⊢;rw [List.all_eq_true] at h ⊢;intro y hy;rcases mem_or_eq_of_mem_set hy with hy|rfl
 ·exact h y hy
 ·simp;omega
theorem jz{α β:Type}{P:α->Prop}{f:α->β->α}:∀ {l:List β} {a:α},P a->(∀ a b,b ∈ l->P a->P (f a b))->P (l.foldl f a)
 |[],a,h,_=>h
 |b :: l,a,h,hf=>jz (l:=l) (hf a b mem_cons_self h) fun a c hc=>hf a c (mem_cons_of_mem _ hc)
theorem Jo{σ:Type}{qj:σ->b6->Option (Nat×List Bool)}{ua:List Int->σ->σ}{n:Nat}{r:aP}{k:Nat}:∀ (m v:Nat) (vs:List Int) (s:σ),vs.length=k->jC n vs=true->(iy qj ua n r m v vs s).1.length=k/\jC n (iy qj ua n r m v vs s).1=true
 |0,v,vs,s,h1,h2=>⟨h1,h2⟩
 |m+1,v,vs,s,h1,h2=>by
  refine jz (P:=fun (a:List Int×σ)=>a.1.length=k/\jC n a.1=true) ⟨h1,h2⟩ fun a x hx ha=>?_;have Vm:=mem_range.1 hx;have h3:(a.1.set v (x:Int)).length=k:=by rw [length_set];exact ha.1
  have h4:=rQ ha.2 v Vm;unfold kY;split
  ·exact Jo m (v+1) _ _ h3 h4
  ·exact ⟨h3,h4⟩
structure Cells (S n k:Nat) (N0 N1 N2 N4 N5 N6 V base:Nat) (i0:Int) (r:aP) (hd:Sl Int) (cs:Sl (Sl Int)) (ls:Sl Int) (g:FuncId) (ga gb:List AV) (h:Heap):Prop where
 h0:h.get N0=some (.cells [.ptr S 0])
 h1:h.get N1=some (.cells (bR i0 r k (an encI 1 hd) (an cX 1 cs) (an encI 1 ls)))
 h2:h.get N2=some (.cells [.func g ga gb])
 h4:h.get N4=some (.cells [.slice V 0 k 1])
 h5:h.get N5=some (.cells [.func 157 [] [.ptr N1 0,.ptr N0 0,.ptr N4 0]])
 h6:h.get N6=some (.cells [.func 159 [] [.ptr N1 0,.ptr N2 0,.ptr N4 0,.ptr N0 0,.ptr N5 0,.ptr N6 0]])
 lo:base<=N0/\base<=N1/\base<=N2/\base<=N4/\base<=N5/\base<=N6/\base<=V
 hi:N0<h.next/\N1<h.next/\N2<h.next/\N4<h.next/\N5<h.next/\N6<h.next/\V<h.next
 ne:N0≠V/\N1≠V/\N2≠V/\N4≠V/\N5≠V/\N6≠V
theorem Cells.gr{N2 N5 N6:Nat}{r:aP}{hd:Sl Int}{cs:Sl (Sl Int)}{ls:Sl Int}(c:Cells S n k N0 N1 N2 N4 N5 N6 V base i0 r hd cs ls g ga gb h)(hb:∀ b,base<=b->b<h.next->b≠V->h'.get b=h.get b)(hn:h.next<=h'.next) :
  Cells S n k N0 N1 N2 N4 N5 N6 V base i0 r hd cs ls g ga gb h':=by
 obtain ⟨h0,h1,h2,h4,h5,h6,⟨l0,l1,l2,l4,l5,l6,lv⟩,⟨i0',i1,i2,i4,i5,i6,iv'⟩,⟨n0,n1,n2,n4,n5,n6⟩⟩:=c
 exact ⟨by rw [hb _ l0 i0' n0];exact h0,by rw [hb _ l1 i1 n1];exact h1,by rw [hb _ l2 i2 n2];exact h2,by rw [hb _ l4 i4 n4];exact h4,by rw [hb _ l5 i5 n5];exact h5,by rw [hb _ l6 i6 n6];exact h6,
  ⟨l0,l1,l2,l4,l5,l6,lv⟩,⟨by omega,by omega,by omega,by omega,by omega,by omega,by omega⟩,⟨n0,n1,n2,n4,n5,n6⟩⟩
set_option maxHeartbeats 1000000 in
theorem NY{Ga:σ->Heap->Prop}{qj:σ->b6->Option (Nat×List Bool)}{ua:List Int->σ->σ}{lo:Nat}{r:aP}(d:TS σ Ga qj ua S B n lo base k r g ga gb V)
  {N2 N5 N6:Nat} {hd:Sl Int} {cs:Sl (Sl Int)} {ls:Sl Int} (hf:r.mC) (hk:k=(varsOf r).length) (HA:k<=12) (hcs:cs.l.map Sl.l=r.body.l.map (fun c=>jj (varsOf r) c.args.l)) (Lh:ls.l=r.body.l.map (fun c=>iJ (placesOf (varsOf r) c.args.l))) :
  ∀ (m v:Nat),v+m=k->∀ (vs:List Int) (s:σ) (h:Heap) (K:Out->Heap->Bool),Ga s h->base<=h.next->Cells S n k N0 N1 N2 N4 N5 N6 V base i0 r hd cs ls g ga gb h->h.get V=some (.cells (vs.map iv))->vs.length=k->jC n vs=true ->
   (∀ h',Ga (iy qj ua n r m v vs s).2 h'->h'.get V=some (.cells ((iy qj ua n r m v vs s).1.map iv))->(∀ b,base<=b->b<h.next->b≠V->h'.get b=h.get b)->h.next<=h'.next->K (.ret (.bool true)) h'=true) ->
   Sem TP 159 [.int .i64 (v:Int),.ptr N1 0,.ptr N2 0,.ptr N4 0,.ptr N0 0,.ptr N5 0,.ptr N6 0] h K:=by
 intro m
 induction m with
 |zero=>
  intro v hv vs s h K ha Nd hc hV Ei NI hK;have h1:=hc.h1;simp only [bR] at h1;refine F.mg ?_;rw [F.mH];simp only [aR,reduceAdd,reduceEqDiff,reduceIte,aj h1,cA,fE (by omega:(v:Int)=(k:Int)),aL,aj hc.h2,aj hc.h4,fF];rw [<- Ei];refine ah (d.run s h vs _ ha hc.lo.2.2.2.2.2.2 hc.hi.2.2.2.2.2.2 hV Ei NI fun h' a1 a2 a3=>?_);simp only [aR,reduceAdd,reduceEqDiff,reduceIte];exact hK h' a1 (by rw [a2 V hc.lo.2.2.2.2.2.2 hc.hi.2.2.2.2.2.2];exact hV) (fun b b1 b2 _=>a2 b b1 b2) a3
 |succ m ih=>
  intro v hv vs s h K ha Nd hc hV Ei NI hK;have h1:=hc.h1;simp only [bR] at h1;have hS:=(d.st s h ha).1;have xG:=d.xG;refine F.mg ?_;rw [F.mH];simp only [aR,reduceAdd,reduceEqDiff,reduceIte,aj h1,cA,eT (by omega:¬ (v:Int)=(k:Int)),aJ,aj hc.h0,ct,aj hS]
  refine aE 0 n (zero_le _) (fun x e h'=>∃ acc:List Int×σ,acc=(List.range x).foldl (kY qj n r v (iy qj ua n r m (v+1))) (vs,s)/\Ga acc.2 h'/\h'.get V=some (.cells (acc.1.map iv))/\acc.1.length=k/\jC n acc.1=true /\
   (∀ b,base<=b->b<h.next->b≠V->h'.get b=h.get b)/\h.next<=h'.next/\e 0 = .int .i64 (v:Int)/\e 1 = .ptr N1 0/\e 2 = .ptr N2 0/\e 3 = .ptr N4 0/\e 4 = .ptr N0 0/\e 5 = .ptr N5 0/\e 6 = .ptr N6 0/\e 20 = .int .i64 (n:Int)/\e 21 = .int .i64 (x:Int))
   ⟨(vs,s),rfl,ha,hV,Ei,NI,fun _ _ _ _=>rfl,dL _,rfl,rfl,rfl,rfl,rfl,rfl,rfl,rfl,rfl⟩ ?_ ?_
  ·rintro x e h' _ hx ⟨acc,TT,qa,qV,ql,qin,qf,qn,e0,e1,e2,e3,e4,e5,e6,Hw,AL⟩ K' hn fK hr hp
   have kD:(List.range (x+1)).foldl (kY qj n r v (iy qj ua n r m (v+1))) (vs,s)=kY qj n r v (iy qj ua n r m (v+1)) acc x:=by
    rw [range_succ,foldl_append,<- TT];rfl
   unfold kY at kD;have Et:=hc.gr qf qn;have iP:=yH (v:=(x:Int)) qV (i:=v) (by omega);have XZ:v<k:=by omega
   rw [F.dB.aT];simp only [e0,e3,e5,Hw,AL,aR,reduceAdd,reduceEqDiff,reduceIte,bh hx,aj Et.h4,nF XZ,iP];have qn0:(h'.set V (.cells ((acc.1.set v (x:Int)).map iv))).next=h'.next:=Heap.bl _ _ _
   have qg:∀ b,b≠V->(h'.set V (.cells ((acc.1.set v (x:Int)).map iv))).get b=h'.get b:=fun b hb=>by rw [Heap.aK,if_neg hb]
   have qV2:(h'.set V (.cells ((acc.1.set v (x:Int)).map iv))).get V=some (.cells ((acc.1.set v (x:Int)).map iv)):=by rw [Heap.aK,if_pos rfl]
   generalize (h'.set V (.cells ((acc.1.set v (x:Int)).map iv)))=H at qn0 qg qV2 ⊢;have cH:=Et.gr (h':=H) (fun b _ _ hb=>qg b hb) (by omega);have lV:=hc.lo.2.2.2.2.2.2;have aH:=d.gr _ _ H qa (by omega) (fun b _ hb=>qg b hb) (by omega);obtain ⟨sS,sD,sA⟩:=d.st _ _ aH;have U6:(acc.1.set v (x:Int)).length=k:=by rw [length_set];exact ql
   have vQ:=rQ qin v hx;generalize (acc.1.set v (x:Int))=vs2 at kD qV2 U6 vQ;have c4:=cH.h4;rw [<- U6] at c4;simp only [aj cH.h5,aR,reduceAdd,reduceEqDiff,reduceIte,fF,nil_append,cons_append];refine ah (Jm (n:=n) (B:=B) (lo:=lo) (S:=S) hf hcs Lh sS sD (by have:=d.sb;omega) cH.h0 cH.hi.1 cH.h1 cH.hi.2.1 c4 cH.hi.2.2.2.1 qV2 cH.hi.2.2.2.2.2.2 (by omega) vQ d.n1 sA fun h3 x3=>?_);have c3:=cH.gr (fun b _ hb _=>x3.get b hb) x3.next
   have a3:=d.gr _ _ h3 aH (by omega) (fun b hb _=>x3.get b hb) x3.next
   have v3:h3.get V=some (.cells (vs2.map iv)):=by rw [x3.get V cH.hi.2.2.2.2.2.2];exact qV2
   have n3:=x3.next
   have f3:∀ b,base<=b->b<h.next->b≠V->h3.get b=h.get b:=fun b b1 b2 b3=>by rw [x3.get b (by omega),qg b b3,qf b b1 b2 b3]
   simp only [aR,reduceAdd,reduceEqDiff,reduceIte]
   cases xo:BB n (eR (qj acc.2)) r vs2 (v:Int) with
   |false=>
    rw [xo,if_neg (by simp)] at kD;simp only [aJ,AL,aI hx (show n<=cN by unfold cN;omega),aq];exact hn _ _ ⟨_,kD.symm,a3,v3,U6,vQ,f3,by omega,e0,e1,e2,e3,e4,e5,e6,Hw,rfl⟩
   |true=>
    rw [xo,if_pos rfl] at kD;have Kf:=aI (i:=v) (n:=13) (by omega) (by unfold cN;omega);simp only [aL,e0,e6,aj c3.h6,aR,reduceAdd,reduceEqDiff,reduceIte,Kf,fF,nil_append,cons_append];refine ah (ih (v+1) (by omega) vs2 acc.2 h3 _ a3 (by omega) c3 v3 U6 vQ fun h4 a4 v4 f4 n4=>?_);obtain ⟨w1,w2⟩:=Jo (qj:=qj) (ua:=ua) (r:=r) (k:=k) m (v+1) vs2 acc.2 U6 vQ;simp only [aR,reduceAdd,reduceEqDiff,reduceIte,Bool.not_true,aJ,AL,aI hx (show n<=cN by unfold cN;omega)];exact hn _ _ ⟨_,kD.symm,a4,v4,w1,w2,fun b b1 b2 b3=>by rw [f4 b b1 (by omega) b3,f3 b b1 b2 b3],by omega,e0,e1,e2,e3,e4,e5,e6,Hw,rfl⟩
  ·rintro e h' ⟨acc,TT,qa,qV,ql,qin,qf,qn,e0,e1,e2,e3,e4,e5,e6,Hw,AL⟩ K' fK;rw [F.dB.aT];simp only [Hw,AL,aR,reduceAdd,reduceEqDiff,reduceIte,aX];rw [fK,F.dB.aF];have:iy qj ua n r (m+1) v vs s=acc:=TT.symm;rw [this] at hK;exact hK h' qa qV qf qn
def wu{σ:Type}(qj:σ->b6->Option (Nat×List Bool))(ua:List Int->σ->σ)(n:Nat)(r:aP)(k:Nat)(s:σ):σ:=
 if BB n (eR (qj s)) r (replicate k 0) (-1)=true then (iy qj ua n r k 0 (replicate k 0) s).2 else s
theorem zQ(i:Int)(r:aP)(n:Int)(hd:Sl Int)(cs:Sl (Sl Int))(ls:Sl Int):bw (bR i r n (an encI 1 hd) (an cX 1 cs) (an encI 1 ls))=true:=by
 unfold bR;simp only [bw,gi,Bool.and_true];rfl
theorem BW(h:1<=n)(k:Nat):jC n (replicate k (0:Int))=true:=by
 unfold jC;rw [List.all_eq_true];intro x hx;rw [(mem_replicate.1 hx).2];simp;omega
set_option maxHeartbeats 1000000 in
theorem Jp{Ga:Nat->σ->Heap->Prop}{qj:σ->b6->Option (Nat×List Bool)}{ua:List Int->σ->σ}{lo:Nat}{r:aP}(d:∀ V,h.next<=V->TS σ (Ga V) qj ua S B n lo base k r g ga gb V)
  {hd:Sl Int} {cs:Sl (Sl Int)} {ls:Sl Int} (hf:r.mC) (hk:k=(varsOf r).length) (HA:k<=12) (hcs:cs.l.map Sl.l=r.body.l.map (fun c=>jj (varsOf r) c.args.l)) (Lh:ls.l=r.body.l.map (fun c=>iJ (placesOf (varsOf r) c.args.l)))
  {s:σ} (ha:∀ V,h.next<=V->Ga V s h) (Nd:base<=h.next)
  (hK:∀ h' V,h.next<=V->Ga V (wu qj ua n r k s) h'->(∀ b,base<=b->b<h.next->h'.get b=h.get b)->h.next<=h'.next->K (.ret (.tuple [])) h'=true) :
  Sem TP 118 [.ptr S 0,.agg (bR i0 r k (an encI 1 hd) (an cX 1 cs) (an encI 1 ls)),.func g ga gb] h K:=by
 refine F.tF ?_;rw [F.vG];simp only [pR (x:=.ptr S 0) rfl,cT (zQ i0 r k hd cs ls),pR (x:=.func g ga gb) rfl,aq,Heap.aM]
 have g0:(((h.alloc (.cells [.ptr S 0])).alloc (.cells (bR i0 r k (an encI 1 hd) (an cX 1 cs) (an encI 1 ls)))).alloc (.cells [.func g ga gb])).get h.next=some (.cells [.ptr S 0]):=by
  rw [Heap.aV,Heap.aM,Heap.aM,if_neg (by omega),Heap.aV,Heap.aM,if_neg (by omega)];exact aA _ _
 have g1:(((h.alloc (.cells [.ptr S 0])).alloc (.cells (bR i0 r k (an encI 1 hd) (an cX 1 cs) (an encI 1 ls)))).alloc (.cells [.func g ga gb])).get (h.next+1)=some (.cells (bR i0 r k (an encI 1 hd) (an cX 1 cs) (an encI 1 ls))):=by
  rw [Heap.aV,Heap.aM,Heap.aM,if_neg (by omega)];exact aA _ _
 have g2:(((h.alloc (.cells [.ptr S 0])).alloc (.cells (bR i0 r k (an encI 1 hd) (an cX 1 cs) (an encI 1 ls)))).alloc (.cells [.func g ga gb])).get (h.next+1+1)=some (.cells [.func g ga gb]):=aA _ _;have gx:bu h (((h.alloc (.cells [.ptr S 0])).alloc (.cells (bR i0 r k (an encI 1 hd) (an cX 1 cs) (an encI 1 ls)))).alloc (.cells [.func g ga gb])):=((bu.alloc _ _).trans (bu.alloc _ _)).trans (bu.alloc _ _);have gn:(((h.alloc (.cells [.ptr S 0])).alloc (.cells (bR i0 r k (an encI 1 hd) (an cX 1 cs) (an encI 1 ls)))).alloc (.cells [.func g ga gb])).next=h.next+3:=rfl
 generalize (((h.alloc (.cells [.ptr S 0])).alloc (.cells (bR i0 r k (an encI 1 hd) (an cX 1 cs) (an encI 1 ls)))).alloc (.cells [.func g ga gb]))=H3 at g0 g1 g2 gx gn ⊢;have g1':=g1;simp only [bR] at g1';simp only [aR,reduceAdd,reduceEqDiff,reduceIte,aj g1',BU (show k<=1000000 by omega)];have v6:=aA H3 (.cells ((replicate k (0:Int)).map iv));have x6:=bu.alloc H3 (.cells ((replicate k (0:Int)).map iv));have n6:(H3.alloc (.cells ((replicate k (0:Int)).map iv))).next=H3.next+1:=Heap.aM _ _
 generalize (H3.alloc (.cells ((replicate k (0:Int)).map iv)))=H6 at v6 x6 n6 ⊢;obtain ⟨h7,s7,a7,o7,n7⟩:=mV (h:=H6) (z:=.ax) (v:=.slice H3.next 0 k 1) rfl rfl;obtain ⟨h8,s8,a8,o8,n8⟩:=mV (h:=h7) (z:=.nu) (v:=.func 157 [] [.ptr (h.next+1) 0,.ptr h.next 0,.ptr H6.next 0]) rfl rfl;obtain ⟨h9,s9,a9,o9,n9⟩:=mV (h:=h8) (z:=.nu) (v:=.func 159 [] [.ptr (h.next+1) 0,.ptr (h.next+1+1) 0,.ptr H6.next 0,.ptr h.next 0,.ptr h7.next 0,.ptr h8.next 0]) rfl rfl;simp only [s7,s8,s9,aq];have low:∀ b,b<H6.next->h9.get b=H6.get b:=fun b hb=>by rw [o9 b (by omega),o8 b (by omega),o7 b (by omega)]
 have c:Cells S n k h.next (h.next+1) (h.next+1+1) H6.next h7.next h8.next H3.next base i0 r hd cs ls g ga gb h9:=
  ⟨by rw [low _ (by omega),x6.get _ (by omega)];exact g0,by rw [low _ (by omega),x6.get _ (by omega)];exact g1,by rw [low _ (by omega),x6.get _ (by omega)];exact g2,
   by rw [o9 _ (by omega),o8 _ (by omega)];exact a7,by rw [o9 _ (by omega)];exact a8,a9,
   ⟨by omega,by omega,by omega,by omega,by omega,by omega,by omega⟩,⟨by omega,by omega,by omega,by omega,by omega,by omega,by omega⟩,⟨by omega,by omega,by omega,by omega,by omega,by omega⟩⟩
 have x9:bu h h9:=⟨by omega,fun b hb=>by rw [low b (by omega),x6.get b (by omega),gx.get b hb]⟩
 have v9:h9.get H3.next=some (.cells ((replicate k (0:Int)).map iv)):=by rw [low _ (by omega)];exact v6
 have hV3:h.next<=H3.next:=gx.next
 replace d:=d H3.next hV3
 replace ha:=ha H3.next hV3
 have a9':=d.gr _ _ h9 ha Nd (fun b hb _=>x9.get b hb) x9.next
 have XV:(replicate k (0:Int)).length=k:=length_replicate;have WK:=BW d.n1 k;obtain ⟨sS,sD,sA⟩:=d.st _ _ a9';have c4:=c.h4;rw [<- XV] at c4;generalize NI:replicate k (0:Int)=X0 at v9 XV WK c4;have heF:wu qj ua n r k s=if BB n (eR (qj s)) r X0 (-1)=true then (iy qj ua n r k 0 X0 s).2 else s:=by unfold wu;rw [NI]
 simp only [aR,reduceAdd,reduceEqDiff,reduceIte,aj c.h5,fF,nil_append,cons_append];refine ah (Jm (n:=n) (B:=B) (lo:=lo) (S:=S) hf hcs Lh sS sD (by have:=d.sb;have:=x9.next;omega) c.h0 c.hi.1 c.h1 c.hi.2.1 c4 c.hi.2.2.2.1 v9 c.hi.2.2.2.2.2.2 (by omega) WK d.n1 sA fun UW TU=>?_);have n10:=TU.next
 have c10:=c.gr (fun b _ hb _=>TU.get b hb) n10;have RE:=d.gr _ _ UW a9' (by have:=x9.next;omega) (fun b hb _=>TU.get b hb) n10;have v10:UW.get H3.next=some (.cells (X0.map iv)):=by rw [TU.get _ c.hi.2.2.2.2.2.2];exact v9
 simp only [aR,reduceAdd,reduceEqDiff,reduceIte]
 cases xo:BB n (eR (qj s)) r X0 (-1) with
 |false=>
  rw [xo,if_neg (by simp)] at heF;rw [heF] at hK;simp only [aJ];exact hK UW _ hV3 RE (fun b _ b2=>(x9.trans TU).get b b2) (x9.trans TU).next
 |true=>
  rw [xo,if_pos rfl] at heF;rw [heF] at hK;simp only [aL,aR,reduceAdd,reduceEqDiff,reduceIte,aj c10.h6,fF,nil_append,cons_append];refine ah (NY d hf hk HA hcs Lh k 0 (by omega) X0 s UW _ RE (by have:=x9.next;omega) c10 v10 XV WK fun h11 Sv v11 f11 n11=>?_);simp only [aR,reduceAdd,reduceEqDiff,reduceIte];exact hK h11 _ hV3 Sv (fun b b1 b2=>by rw [f11 b b1 (by have:=x9.next;omega) (by omega),(x9.trans TU).get b b2]) (by have:=x9.next;omega)
theorem Li{Ga:σ->Heap->Prop}{qj:σ->b6->Option (Nat×List Bool)}{ua:List Int->σ->σ}{lo:Nat}{r:aP}(d:∀ V,base<=V->TS σ Ga qj ua S B n lo base k r g ga gb V)
  {hd:Sl Int} {cs:Sl (Sl Int)} {ls:Sl Int} (hf:r.mC) (hk:k=(varsOf r).length) (HA:k<=12) (hcs:cs.l.map Sl.l=r.body.l.map (fun c=>jj (varsOf r) c.args.l)) (Lh:ls.l=r.body.l.map (fun c=>iJ (placesOf (varsOf r) c.args.l)))
  {s:σ} (ha:Ga s h) (Nd:base<=h.next)
  (hK:∀ h',Ga (wu qj ua n r k s) h'->(∀ b,base<=b->b<h.next->h'.get b=h.get b)->h.next<=h'.next->K (.ret (.tuple [])) h'=true) :
  Sem TP 118 [.ptr S 0,.agg (bR i0 r k (an encI 1 hd) (an cX 1 cs) (an encI 1 ls)),.func g ga gb] h K:=
 Jp (Ga:=fun _=>Ga) (fun V hV=>d V (by omega)) hf hk HA hcs Lh (fun _ _=>ha) Nd fun h' _ _=>hK h'
abbrev DB:=b6->Option (Nat×List Bool)
def eB(D D0:DB):Prop:=∀ nm,(D nm).map (fun p=>(p.1,p.2.length))=(D0 nm).map (fun p=>(p.1,p.2.length))
theorem eB.get{D D0:DB}(h:eB D D0){p0:Nat×List Bool}(h0:D0 nm=some p0):∃ p,D nm=some p/\p.1=p0.1/\p.2.length=p0.2.length:=by
 have:=h nm;rw [h0] at this
 cases hd:D nm with
 |none=>rw [hd] at this;cases this
 |some p=>
  rw [hd] at this;simp only [map_some,Option.some.injEq,Prod.mk.injEq] at this;exact ⟨p,rfl,this.1,this.2⟩
theorem eB.back{D D0:DB}(h:eB D D0)(hp:D nm=some p):∃ p0,D0 nm=some p0/\p.1=p0.1/\p.2.length=p0.2.length:=by
 have:=h nm;rw [hp] at this
 cases hd:D0 nm with
 |none=>rw [hd] at this;cases this
 |some p0=>
  rw [hd] at this;simp only [map_some,Option.some.injEq,Prod.mk.injEq] at this;exact ⟨p0,rfl,this.1,this.2⟩
theorem eB.set{D D0:DB}(h:eB D D0)(hp:D nm=some p)(hd:d.length=p.2.length):eB (kX D nm p.1 d) D0:=fun j=>by
 rw [<- h j];unfold kX;by_cases e:j=nm
 ·rw [if_pos e,e,hp,map_some,map_some,hd]
 ·rw [if_neg e]
def sK(n:Nat)(r:aP)(vs:List Int)(s:DB×Bool):DB×Bool:=
 match s.1 r.name with
 |none=>s
 |some p=>if p.2.getD (nA n (ej vs (placesOf (varsOf r) r.args.l))) false=true then s else (kX s.1 r.name p.1 (p.2.set (nA n (ej vs (placesOf (varsOf r) r.args.l))) true),true)
structure oX (S B n lo base P3 P5 P6 PL:Nat) (D0:DB) (r:aP) (i0:Int) (k:Nat) (hd:Sl Int) (cs:Sl (Sl Int)) (ls:Sl Int) (ng:FuncId) (na nb:List AV) (h0:Heap) (s:DB×Bool) (h:Heap):Prop where
 hS:h.get S=some (.cells [.int .i64 (n:Int),.map B])
 hD:ei s.1 h B lo
 NZ:eB s.1 D0
 h3:h.get P3=some (.cells [.ptr S 0])
 h5:h.get P5=some (.cells [.func ng na nb])
 h6:h.get P6=some (.cells [.bool s.2])
 hL:h.get PL=some (.cells (bR i0 r k (an encI 1 hd) (an cX 1 cs) (an encI 1 ls)))
 lt:base<=h.next
 old:∀ b,b<base->b≠P6->(∀ nm p,D0 nm=some p->b≠p.1)->h.get b=h0.get b
structure MS (S B n lo base P3 P5 P6 PL:Nat) (D0:DB) (r:aP) (k:Nat) (hd:Sl Int) (ng:FuncId) (na nb:List AV):Prop where
 n1:1<=n
 xG:n<=64
 low:S<base/\B<base/\P3<base/\P5<base/\P6<base/\PL<base
 rows:∀ nm p,D0 nm=some p->p.1<base/\p.1≠S/\p.1≠P3/\p.1≠P5/\p.1≠P6/\p.1≠PL
 six:P6≠S/\P6≠B/\P6≠P3/\P6≠P5/\P6≠PL
 ask:∀ D,eB D D0->F9 n D r
 head:n ^ r.args.l.length<=4096/\r.args.l.length<=12/\∃ p,D0 r.name=some p/\p.2.length=n ^ r.args.l.length
 hkk:k=(varsOf r).length
 hhd:hd.l=jj (varsOf r) r.args.l
 note:∀ (i:Int) (r:aP) (k:Int) (hd:Sl Int) (cs:Sl (Sl Int)) (ls:Sl Int) (y:AV) (h:Heap) (K:Out->Heap->Bool),(∀ h',bu h h'->K (.ret (.tuple [])) h'=true)->Sem TP ng (na++([.agg (bR i r k (an encI 1 hd) (an cX 1 cs) (an encI 1 ls)),y]++nb)) h K
theorem oX.gr{lo:Nat}{D0:DB}{r:aP}{hd:Sl Int}{cs:Sl (Sl Int)}{ls:Sl Int}{h0:Heap}(o:MS S B n lo base P3 P5 P6 PL D0 r k hd ng na nb){s:DB×Bool}
  (a:oX S B n lo base P3 P5 P6 PL D0 r i0 k hd cs ls ng na nb h0 s h) (hb:∀ b,b<base->h'.get b=h.get b) (hn:h.next<=h'.next):oX S B n lo base P3 P5 P6 PL D0 r i0 k hd cs ls ng na nb h0 s h':=by
 obtain ⟨l1,l2,l3,l4,l5,l6⟩:=o.low;refine ⟨by rw [hb _ l1];exact a.hS,?_,a.NZ,by rw [hb _ l3];exact a.h3,by rw [hb _ l4];exact a.h5,by rw [hb _ l5];exact a.h6,by rw [hb _ l6];exact a.hL,Nat.le_trans a.lt hn,fun b b1 b2 b3=>by rw [hb b b1];exact a.old b b1 b2 b3⟩;obtain ⟨es,ck,m,e1,e2,e3⟩:=a.hD.ex;refine ⟨⟨es,ck,m,by rw [hb _ l2];exact e1,e2,e3⟩,fun nm p hp=>?_,a.hD.inj,Nat.lt_of_lt_of_le a.hD.lt hn⟩;obtain ⟨q1,q2,q3,q4⟩:=a.hD.FU nm p hp;obtain ⟨p0,r1,r2,_⟩:=a.NZ.back hp;have:=(o.rows nm p0 r1).1;exact ⟨q1,Nat.lt_of_lt_of_le q2 hn,q3,by rw [hb _ (by omega)];exact q4⟩
set_option maxHeartbeats 1000000 in
theorem Qp{lo:Nat}{D0:DB}{r:aP}{hd:Sl Int}{cs:Sl (Sl Int)}{ls:Sl Int}{h0:Heap}(o:MS S B n lo base P3 P5 P6 PL D0 r k hd ng na nb){s:DB×Bool}
  (a:oX S B n lo base P3 P5 P6 PL D0 r i0 k hd cs ls ng na nb h0 s h) (hVb:base<=V) (WG:V<h.next) (hV:h.get V=some (.cells (vs.map iv))) (Ei:vs.length=k) (NI:jC n vs=true)
  (hK:∀ h',oX S B n lo base P3 P5 P6 PL D0 r i0 k hd cs ls ng na nb h0 (sK n r vs s) h'->(∀ b,base<=b->b<h.next->h'.get b=h.get b)->h.next<=h'.next->K (.ret (.bool true)) h'=true) :
  Sem TP 146 ([]++([.slice V 0 vs.length 1]++[.ptr PL 0,.ptr P3 0,.ptr P6 0,.ptr P5 0])) h K:=by
 obtain ⟨l1,l2,l3,l4,l5,l6⟩:=o.low;obtain ⟨Ff,I8,p0,BQ,abq⟩:=o.head;have hL:=a.hL;simp only [bR] at hL;simp only [nil_append,cons_append];refine F.qG ?_;rw [F.rL];simp only [aR,reduceAdd,reduceEqDiff,reduceIte,aj hL];have sX:∀ p ∈ placesOf (varsOf r) r.args.l,p<vs.length:=by rw [Ei,o.hkk];exact qJ uZ
 have qK:(placesOf (varsOf r) r.args.l).length=r.args.l.length:=by unfold placesOf;simp
 refine ah (MN (ps:=placesOf (varsOf r) r.args.l) hV WG rfl o.hhd sX (by rw [qK];omega) fun h3 t1 x3 t2=>?_);have lt0:=a.lt;have a3:=oX.gr o a (fun b hb=>x3.get b (by omega)) x3.next
 obtain ⟨p,hp,XY,aev⟩:=a3.NZ.get BQ;have hL3:=a3.hL;simp only [bR] at hL3;have yO:=rP vs (placesOf (varsOf r) r.args.l);have hin:=u0 NI sX;rw [<- yO];have RC:sK n r vs s=if p.2.getD (nA n (ej vs (placesOf (varsOf r) r.args.l))) false=true then s else (kX s.1 r.name p.1 (p.2.set (nA n (ej vs (placesOf (varsOf r) r.args.l))) true),true):=by unfold sK;rw [hp]
 have Fg:nA n (ej vs (placesOf (varsOf r) r.args.l))<p.2.length:=by
  have:=xm hin;rw [yO,qK] at this;omega
 have oW:p.2[nA n (ej vs (placesOf (varsOf r) r.args.l))]?=some (p.2.getD (nA n (ej vs (placesOf (varsOf r) r.args.l))) false):=by rw [getD_eq_getElem?_getD,ep Fg];rfl
 obtain ⟨b1,b2,b3,b4⟩:=a3.hD.FU r.name p hp;have Qq:∀ {K:Out->Heap->Bool},K (.ret (.int .i64 ((nA n (ej vs (placesOf (varsOf r) r.args.l)):Nat):Int))) h3=true->Sem TP 101 [.ptr S 0,.slice h.next 0 (ej vs (placesOf (varsOf r) r.args.l)).length 1] h3 K:=fun hk=>AN a3.hS o.n1 t1 (by rw [yO,qK];exact I8) (by rw [yO,qK];exact Ff) hin hk;generalize nA n (ej vs (placesOf (varsOf r) r.args.l))=rk at RC Fg oW Qq;simp only [aR,reduceAdd,reduceEqDiff,reduceIte,aj a3.h3,ct,aj a3.hS,aj hL3,a3.hD.look hp];refine ah (Qq ?_);simp only [aR,reduceAdd,reduceEqDiff,reduceIte,nF Fg,Hy b4 oW]
 cases XT:p.2.getD rk false with
 |true=>
  rw [XT,if_pos rfl] at RC;simp only [Bool.not_true,aJ];rw [RC] at hK;exact hK h3 a3 (fun b _ b2=>x3.get b b2) x3.next
 |false=>
  rw [XT,if_neg (by simp)] at RC;simp only [Bool.not_false,aL,aj a3.h3,aR,reduceAdd,reduceEqDiff,reduceIte];refine ah (Qq ?_);obtain ⟨w1,w2,w3,w4,w5,w6⟩:=o.rows r.name p0 BQ;rw [<- XY] at w1 w2 w3 w4 w5 w6;obtain ⟨y1,y2,y3,y4,y5⟩:=o.six;have me:=a3.hD.set hp (d:=p.2.set rk true) (by simp);have WI:=Je (v:=true) b4 Fg;have g6:(h3.set p.1 (.cells ((p.2.set rk true).map bv))).get P6=some (.cells [.bool s.2]):=by rw [Heap.aK,if_neg (Ne.symm w5)];exact a3.h6
  have TR:aS 1 (.ptr P6 0) (.bool true) (h3.set p.1 (.cells ((p.2.set rk true).map bv)))=some ((h3.set p.1 (.cells ((p.2.set rk true).map bv))).set P6 (.cells [.bool true])):=by
   rw [cq (n:=1) g6 rfl rfl (by simp)];rfl
  have q:∀ b,b≠p.1->b≠P6->((h3.set p.1 (.cells ((p.2.set rk true).map bv))).set P6 (.cells [.bool true])).get b=h3.get b:=fun b hb1 hb2=>by rw [Heap.aK,if_neg hb2,Heap.aK,if_neg hb1]
  have q6:((h3.set p.1 (.cells ((p.2.set rk true).map bv))).set P6 (.cells [.bool true])).get P6=some (.cells [.bool true]):=by rw [Heap.aK,if_pos rfl]
  have qn:((h3.set p.1 (.cells ((p.2.set rk true).map bv))).set P6 (.cells [.bool true])).next=h3.next:=by rw [Heap.bl,Heap.bl]
  have hD':ei (kX s.1 r.name p.1 (p.2.set rk true)) ((h3.set p.1 (.cells ((p.2.set rk true).map bv))).set P6 (.cells [.bool true])) B lo:=by
   obtain ⟨es,ck,m,e1,e2,e3⟩:=me.ex;refine ⟨⟨es,ck,m,by rw [Heap.aK,if_neg (Ne.symm y2)];exact e1,e2,e3⟩,fun nm p' Cm=>?_,me.inj,by rw [Heap.bl];exact me.lt⟩;obtain ⟨c1,c2,c3,c4⟩:=me.FU nm p' Cm;obtain ⟨p0',d1,d2,_⟩:=(a3.NZ.set hp (d:=p.2.set rk true) (by simp)).back Cm;have:=(o.rows nm p0' d1).2.2.2.2.1;exact ⟨c1,by rw [Heap.bl];exact c2,c3,by rw [Heap.aK,if_neg (by rw [d2];exact this)];exact c4⟩
  simp only [aR,reduceAdd,reduceEqDiff,reduceIte,nF Fg,WI,TR];generalize ((h3.set p.1 (.cells ((p.2.set rk true).map bv))).set P6 (.cells [.bool true]))=H at q q6 qn hD' ⊢
  have aH:oX S B n lo base P3 P5 P6 PL D0 r i0 k hd cs ls ng na nb h0 (sK n r vs s) H:=by
   rw [RC];exact ⟨by rw [q S (Ne.symm w2) (Ne.symm y1)];exact a3.hS,hD',a3.NZ.set hp (by simp),by rw [q P3 (Ne.symm w3) (Ne.symm y3)];exact a3.h3,by rw [q P5 (Ne.symm w4) (Ne.symm y4)];exact a3.h5,q6,by rw [q PL (Ne.symm w6) (Ne.symm y5)];exact a3.hL,by rw [qn];exact a3.lt,fun b b1 b2 b3=>by rw [q b (by rw [XY];exact b3 _ _ BQ) b2];exact a3.old b b1 b2 b3⟩
  have hLH:=aH.hL;simp only [bR] at hLH;simp only [aj aH.h5,aj hLH,MQ,aR,reduceAdd,reduceEqDiff,reduceIte,fF];refine ah (o.note i0 r k hd cs ls _ H _ fun h9 x9=>?_);simp only [aR,reduceAdd,reduceEqDiff,reduceIte];have ltH:=aH.lt;have n9:=x9.next
  exact hK h9 (oX.gr o aH (fun b hb=>x9.get b (by omega)) n9) (fun b b1 b2=>by have:=x3.next;rw [x9.get b (by omega),q b (by omega) (by omega),x3.get b b2]) (by have:=x3.next;omega)
theorem Lj{lo:Nat}{D0:DB}{r:aP}{hd:Sl Int}{cs:Sl (Sl Int)}{ls:Sl Int}{h0:Heap}(o:MS S B n lo base P3 P5 P6 PL D0 r k hd ng na nb)(V0:Nat)(hV0:base<=V0) :
  TS (DB×Bool) (oX S B n lo base P3 P5 P6 PL D0 r i0 k hd cs ls ng na nb h0) (fun s=>s.1) (sK n r) S B n lo base k r 146 [] [.ptr PL 0,.ptr P3 0,.ptr P6 0,.ptr P5 0] V0:=
 ⟨o.n1,o.xG,o.low.1,fun s h a=>⟨a.hS,a.hD,o.ask _ a.NZ⟩,fun s h h' a Nd hb hn=>oX.gr o a (fun b ff=>hb b (by omega) (by omega)) hn,fun s h vs K a h1 h2 h3 h4 h5 hK=>Qp o a h1 h2 h3 h4 h5 hK⟩
theorem DA{σ:Type}{qj:σ->DB}{ua:List Int->σ->σ}{n:Nat}{r:aP}{k:Nat}{Q:σ->Prop}(hQ:∀ vs s,vs.length=k->jC n vs=true->Q s->Q (ua vs s)):∀ (m v:Nat) (vs:List Int) (s:σ),vs.length=k->jC n vs=true->Q s ->
  ((iy qj ua n r m v vs s).1.length=k/\jC n (iy qj ua n r m v vs s).1=true)/\Q (iy qj ua n r m v vs s).2
 |0,v,vs,s,h1,h2,h3=>⟨⟨h1,h2⟩,hQ vs s h1 h2 h3⟩
 |m+1,v,vs,s,h1,h2,h3=>by
  refine jz (P:=fun (a:List Int×σ)=>(a.1.length=k/\jC n a.1=true)/\Q a.2) ⟨⟨h1,h2⟩,h3⟩ fun a x hx ha=>?_;have Vm:=mem_range.1 hx;have h3:(a.1.set v (x:Int)).length=k:=by rw [length_set];exact ha.1.1
  have h4:=rQ ha.1.2 v Vm;unfold kY;split
  ·exact DA hQ m (v+1) _ _ h3 h4 ha.2
  ·exact ⟨⟨h3,h4⟩,ha.2⟩
theorem rR{qj:σ->DB}{ua:List Int->σ->σ}{r:aP}{Q:σ->Prop}(n1:1<=n)(hQ:∀ vs s,vs.length=k->jC n vs=true->Q s->Q (ua vs s)){s:σ}(hs:Q s):Q (wu qj ua n r k s):=by
 unfold wu;split
 ·exact (DA hQ k 0 _ _ length_replicate (BW n1 k) hs).2
 ·exact hs
structure yP where
 i:Int
 r:aP
 hd:Sl Int
 cs:Sl (Sl Int)
 ls:Sl Int
def uc(p:yP):List AV:=bR p.i p.r (varsOf p.r).length (an encI 1 p.hd) (an cX 1 p.cs) (an encI 1 p.ls)
theorem Gb(p:yP):(uc p).length=8:=rfl
theorem Gc(p:yP):bw (uc p)=true:=zQ _ _ _ _ _ _
structure yP.ok (p:yP):Prop where
 mC:p.r.mC
 NX:(varsOf p.r).length<=12
 hd:p.hd.l=jj (varsOf p.r) p.r.args.l
 cs:p.cs.l.map Sl.l=p.r.body.l.map (fun c=>jj (varsOf p.r) c.args.l)
 ls:p.ls.l=p.r.body.l.map (fun c=>iJ (placesOf (varsOf p.r) c.args.l))
def kN(n:Nat)(r:aP)(s:DB×Bool):DB×Bool:=wu (fun s=>s.1) (sK n r) n r (varsOf r).length s
def mw(n:Nat)(rs:List aP)(s:DB×Bool):DB×Bool:=rs.foldl (fun s r=>kN n r s) s
theorem Ll{rs:List aP}{i:Nat}{r:aP}(hr:rs[i]?=some r)(s:DB×Bool):mw n (rs.take (i+1)) s=kN n r (mw n (rs.take i) s):=by
 unfold mw;rw [take_add_one,hr];simp
inductive Reach (n:Nat) (rs:List aP) (D0:DB):DB->Prop
 |refl:Reach n rs D0 D0
 |step (D:DB):Reach n rs D0 D->Reach n rs D0 (mw n rs (D,false)).1
theorem HB:∀ (l:List Bool) (i:Nat),l[i]?=some false->(l.set i true).count false<l.count false
 |[],i,h=>by simp at h
 |b :: l,0,h=>by
  simp only [getElem?_cons_zero,Option.some.injEq] at h;subst h;simp
 |b :: l,i+1,h=>by
  rw [getElem?_cons_succ] at h;have:=HB l i h;rw [set_cons_succ,count_cons,count_cons];omega
def WL(D:DB)(nm:b6):Nat:=match D nm with|none=>0|some p=>p.2.count false
def DC(names:List b6)(D:DB):Nat:=(names.map (WL D)).sum
structure Jq (names:List b6) (D0 D:DB) (s:DB×Bool):Prop where
 NZ:eB s.1 D0
 le:DC names s.1<=DC names D
 lt:s.2=true->DC names s.1<DC names D
 same:s.2=false->s.1=D
theorem Qr{names:List b6}{D0 D:DB}{r:aP}(hin:r.name ∈ names)(hk:k=(varsOf r).length)(hh:∃ p,D0 r.name=some p/\p.2.length=n ^ r.args.l.length){s:DB×Bool}(Ei:vs.length=k)(NI:jC n vs=true)(q:Jq names D0 D s):Jq names D0 D (sK n r vs s):=by
 obtain ⟨p0,BQ,XV⟩:=hh;obtain ⟨p,hp,_,hl⟩:=q.NZ.get BQ;have sX:∀ p ∈ placesOf (varsOf r) r.args.l,p<vs.length:=by rw [Ei,hk];exact qJ uZ
 have qK:(placesOf (varsOf r) r.args.l).length=r.args.l.length:=by unfold placesOf;simp
 have Fg:nA n (ej vs (placesOf (varsOf r) r.args.l))<p.2.length:=by
  have:=xm (u0 NI sX);rw [rP,qK] at this;omega
 have RC:sK n r vs s=if p.2.getD (nA n (ej vs (placesOf (varsOf r) r.args.l))) false=true then s else (kX s.1 r.name p.1 (p.2.set (nA n (ej vs (placesOf (varsOf r) r.args.l))) true),true):=by unfold sK;rw [hp]
 rw [RC];generalize nA n (ej vs (placesOf (varsOf r) r.args.l))=rk at Fg ⊢;split
 ·exact q
 ·rename_i hb
  have oW:p.2[rk]?=some false:=by
   rw [getD_eq_getElem?_getD,ep Fg] at hb;rw [ep Fg];simp only [getD_some,not_eq_true] at hb;rw [hb]
  have hlt:DC names (kX s.1 r.name p.1 (p.2.set rk true))<DC names s.1:=by
   refine ey.Km (fun nm=>?_) (t:=r.name) ?_ hin
   ·unfold WL kX;by_cases e:nm=r.name
    ·subst e;rw [if_pos rfl,hp];exact Nat.le_of_lt (HB _ _ oW)
    ·rw [if_neg e];exact dL _
   ·unfold WL kX;rw [if_pos rfl,hp];exact HB _ _ oW
  have:=q.le;exact ⟨q.NZ.set hp (by simp),by show DC names (kX s.1 r.name p.1 (p.2.set rk true))<=_;omega,fun _=>by show DC names (kX s.1 r.name p.1 (p.2.set rk true))<_;omega,fun h=>by cases h⟩
theorem Jr{names:List b6}{D0 D:DB}{r:aP}(n1:1<=n)(hin:r.name ∈ names)(hh:∃ p,D0 r.name=some p/\p.2.length=n ^ r.args.l.length){s:DB×Bool}(q:Jq names D0 D s):Jq names D0 D (kN n r s):=
 rR n1 (fun vs s h1 h2 h3=>Qr hin rfl hh h1 h2 h3) q
theorem AP(nm:b6)(xs:List b6):mI nm xs=(ec nm&&mu xs):=by
 unfold mI mu;rw [Bool.and_comm (xs.all ec)]
def jD(r:aP):Bool:=ec r.name&&(mu r.args.l&&(decide (r.body.l.length<=20)&&(r.body.l.all gK&&decide ((varsOf r).length<=12))))
theorem cO{r:aP}(lu:r.ok)(hf:r.mC){h:Heap}{K:Out->Heap->Bool}(hK:K (.ret (.bool (jD r))) h=true) :
  Sem TP 112 [.agg [.str r.name,an encS 1 r.args,an bL 4 r.body]] h K:=by
 refine Sem.data (r:=.bool (jD r)) ?_ (by have:=fR r;simpa [aO,AV.cL,AV.pure] using this) hK;clear hK;have AO:r.body.l.length<=cN:=lu.2.2.2.1;refine F.CT ?_;rw [F.EH];have g0:(Heap.alloc Heap.empty (.cells (aO r))).get 0=some (.cells (aO r)):=aA _ _;have gn:(Heap.alloc Heap.empty (.cells (aO r))).next=1:=rfl
 have hb:eZ (.agg [.str r.name,an encS 1 r.args,an bL 4 r.body])=some (aO r):=cT (kr r);simp only [hb,aq,bU];generalize (Heap.alloc Heap.empty (.cells (aO r)))=H at g0 gn ⊢;have fin:∀ (b:Bool) h',b=jD r->qh (.bool (jD r)) (.ret (.bool b)) h'=true:=fun b h' hb=>by rw [hb];exact gh rfl
 generalize qh (.bool (jD r))=R at fin ⊢;simp only [aR,reduceAdd,reduceEqDiff,reduceIte,aj g0,aO];refine ah (ef ?_);simp only [aR,reduceAdd,reduceEqDiff,reduceIte]
 cases hn:ec r.name with
 |false=>simp only [Bool.not_false,aL];exact fin _ _ (by simp [jD,hn])
 |true=>
 simp only [Bool.not_true,aJ,aR,reduceAdd,reduceEqDiff,reduceIte,aj g0,aO];refine ah (dM lu.2.1 ?_);simp only [aR,reduceAdd,reduceEqDiff,reduceIte]
 cases Qs:mu r.args.l with
 |false=>simp only [Bool.not_false,aL];exact fin _ _ (by simp [jD,Qs])
 |true=>
 simp only [Bool.not_true,aJ,aR,reduceAdd,reduceEqDiff,reduceIte,aj g0,aO];by_cases uV:20<r.body.l.length
 ·simp only [fE (by omega:(20:Int)<(r.body.l.length:Int)),aL];exact fin _ _ (by simp [jD,show ¬ r.body.l.length<=20 by omega])
 simp only [eT (by omega:¬ (20:Int)<(r.body.l.length:Int)),aJ];have aew:r.body.l.length<=20:=by omega
 refine aE 0 r.body.l.length (zero_le _) (fun i e h'=>bu H h'/\e 1 = .ptr 0 0/\e 3 = .int .i64 (i:Int)/\(r.body.l.take i).all gK=true) ⟨bu.refl _,rfl,rfl,rfl⟩ ?_ ?_
 ·rintro i e h' _ hi ⟨x1,e1,e3,ht⟩ K' u6 hx hr hp;have hv:r.body.l[i]?=some r.body.l[i]:=ep hi;generalize r.body.l[i]=c at hv;have Js:=lu.2.2.2.2 c (ig hv);have q0:h'.get 0=some (.cells (aO r)):=by rw [x1.get 0 (by omega)];exact g0
  obtain ⟨H2,qX,k1,ko,kn⟩:=cr (h:=h') (zs:=[.int .i64 0,.bool false,.str [],.ax]) (cs:=bL c) (n:=4) rfl rfl (iC c);have x2:bu H H2:=x1.trans ⟨by omega,fun b hb=>ko b (by omega)⟩;have no:gK c=false->∀ h',R (.ret (.bool false)) h'=true:=fun hc h'=>fin _ _ (by simp [jD,all_false hv hc]);rw [F.cO.aT];simp only [e1,e3,aR,reduceAdd,reduceEqDiff,reduceIte,aj q0,aO,bh hi,aW r.body hi,dm iB hv,qX];simp only [aR,reduceAdd,reduceEqDiff,reduceIte,aj k1,bL,cA];by_cases k0:c.kind=0
  ·have Vn:gK c=(ec c.name&&mu c.args.l):=by unfold gK;rw [if_pos k0,AP]
   simp only [fE k0,aL,aR,reduceAdd,reduceEqDiff,reduceIte,aj k1,bL];refine ah (ef ?_);simp only [aR,reduceAdd,reduceEqDiff,reduceIte]
   cases n1:ec c.name with
   |false=>
    simp only [Bool.not_false,aL];rw [hr,F.cO.bB];exact no (by rw [Vn,n1];rfl) _
   |true=>
   simp only [Bool.not_true,aJ,aR,reduceAdd,reduceEqDiff,reduceIte,aj k1,bL];refine ah (dM Js.2.1 ?_);simp only [aR,reduceAdd,reduceEqDiff,reduceIte]
   cases n2:mu c.args.l with
   |false=>
    simp only [Bool.not_false,aL];rw [hr,F.cO.bB];exact no (by rw [Vn,n2,Bool.and_false]) _
   |true=>
   simp only [Bool.not_true,aJ,aI hi AO,aq];exact u6 _ _ ⟨x2,e1,rfl,ju hv ht (by rw [Vn,n1,n2];rfl)⟩
  simp only [eT k0,aJ]
  have J:∀ (e:Env) (b:Bool),e 1 = .ptr 0 0->e 3 = .int .i64 (i:Int)->e 4 = .ptr h'.next 0->e 44 = .bool b->(b=true↔(c.kind=1\/c.kind=2))->F.cO.J0 K' ⟨e,67,[],H2⟩=true:=by
   intro e b e1 e3 e4 e44 hb;rw [F.cO.yu];simp only [e4,e44,aR,reduceAdd,reduceEqDiff,reduceIte]
   cases b with
   |false=>
    simp only [aJ];have:¬ (c.kind=1\/c.kind=2):=fun h=>by have:=hb.2 h;cases this
    rw [hr,F.cO.bB];exact no (by unfold gK;rw [if_neg k0,if_neg this]) _
   |true=>
    have hk:=hb.1 rfl;have ON:gK c=(decide (c.name = [])&&(decide (c.args.l.length=2)&&c.args.l.all ec)):=by simp only [gK,if_neg k0,if_pos hk]
    simp only [aL,aR,reduceAdd,reduceEqDiff,reduceIte,aj k1,bL,rM];by_cases hn:c.name = []
    ·simp only [fE hn,Bool.not_true,aJ,aR,reduceAdd,reduceEqDiff,reduceIte,aj k1,bL,cA];by_cases h2:c.args.l.length=2
     ·simp only [fE (by omega:(c.args.l.length:Int)=2),Bool.not_true,aJ,aR,reduceAdd,reduceEqDiff,reduceIte,aj k1,bL];refine ah (dM Js.2.1 ?_);simp only [aR,reduceAdd,reduceEqDiff,reduceIte];have xI:mu c.args.l=c.args.l.all ec:=by unfold mu;rw [fE (by omega:c.args.l.length<=12),Bool.and_true]
      rw [xI]
      cases n2:c.args.l.all ec with
      |false=>
       simp only [Bool.not_false,aL];rw [hr,F.cO.bB];exact no (by rw [ON,n2,Bool.and_false,Bool.and_false]) _
      |true=>
       simp only [Bool.not_true,aJ,e3,aI hi AO,aq];exact u6 _ _ ⟨x2,e1,rfl,ju hv ht (by rw [ON,n2];simp [hn,h2])⟩
     ·simp only [eT (by omega:¬ (c.args.l.length:Int)=2),Bool.not_false,aL];rw [hr,F.cO.bB];exact no (by rw [ON];simp [h2]) _
    ·simp only [eT hn,Bool.not_false,aL];rw [hr,F.cO.bB];exact no (by rw [ON];simp [hn]) _
  by_cases k1':c.kind=1
  ·simp only [fE k1',aL];exact J _ true e1 e3 rfl rfl (by simp [k1'])
  ·simp only [eT k1',aJ];exact J _ (decide (c.kind=2)) e1 e3 rfl rfl (by simp [k1'])
 ·rintro e h' ⟨x1,e1,e3,ht⟩ K' hx;have q0:h'.get 0=some (.cells (aO r)):=by rw [x1.get 0 (by omega)];exact g0
  rw [F.cO.aT];simp only [e1,e3,aR,reduceAdd,reduceEqDiff,reduceIte,aj q0,aO,aX];rw [hx,F.cO.aF];simp only [e1,aR,reduceAdd,reduceEqDiff,reduceIte,aj q0,aO,rO];refine ah (bM hf fun x jO=>?_);simp only [aR,reduceAdd,reduceEqDiff,reduceIte,jO];rw [kC (dL _)] at ht;refine fin _ _ ?_;unfold jD;rw [hn,Qs,fE aew,ht];by_cases I8:(varsOf r).length<=12
  ·rw [fE I8,fE (by omega:((varsOf r).length:Int)<=12)];rfl
  ·rw [eT I8,eT (by omega:¬ ((varsOf r).length:Int)<=12)];rfl
def dV(cs:List eP):List (b6×Int):=(cs.filter fun c=>decide (c.kind=0)).map fun c=>(c.name,(c.args.l.length:Int))
def ud(r:aP):List (b6×Int):=(r.name,(r.args.l.length:Int)) :: dV r.body.l
def cB(rs:List aP):List (b6×Int):=rs.flatMap ud
theorem DD{cs:List eP}{c:eP}(hc:cs[j]?=some c):dV (cs.take (j+1))=dV (cs.take j)++if c.kind=0 then [(c.name,(c.args.l.length:Int))] else []:=by
 unfold dV;rw [take_add_one,hc,toList_some,filter_append,map_append];by_cases h:c.kind=0<;>simp [h]
theorem qm(cs:List eP):(dV cs).length<=cs.length:=by
 unfold dV;rw [length_map];exact length_filter_le _ _
theorem ue:∀ rs:List aP,(∀ r ∈ rs,r.body.l.length<=20)->(cB rs).length<=rs.length*21
 |[],_=>dL _
 |r :: rs,h=>by
  have h1:=ue rs fun q hq=>h q (mem_cons_of_mem _ hq);have h2:=qm r.body.l;have h3:=h r mem_cons_self;show (ud r++cB rs).length<=_;unfold ud;rw [length_append,length_cons,length_cons];omega
theorem cK{rules:Sl aP}(sJ:rules.l.length<=60)(uV:∀ r ∈ rules.l,r.body.l.length<=20){h:Heap}{K:Out->Heap->Bool}(hK:∀ x:Sl (b6×Int),x.l=cB rules.l->K (.ret (an nB 2 x)) h=true) :
  Sem TP 113 [an aO 3 rules] h K:=by
 have hbig:rules.l.length<=cN:=by unfold cN;omega
 have hmx:cI=140737488355328:=rfl
 have main:Sem TP 113 [an aO 3 rules] Heap.empty (fun o h'=>yes (∃ v,∃ x:Sl (b6×Int),o = .ret v/\x.l=cB rules.l/\Fz true h' v (an nB 2 x))):=by
  refine F.Bc ?_;rw [F.CQ];refine aE 0 rules.l.length (zero_le _) (fun i e h'=>∃ a,Own nB 2 0 h' a (cB (rules.l.take i))/\e 0=an aO 3 rules/\e 3=a/\e 4 = .int .i64 (i:Int)) ⟨.ax,.nil,rfl,rfl,rfl⟩ ?_ ?_
  ·rintro i e h' _ hi ⟨a,o,e0,e3,e4⟩ K' hn hx hr hp;have hv:rules.l[i]?=some rules.l[i]:=ep hi;generalize rules.l[i]=r at hv;have abe:=uV r (ig hv);have AO:r.body.l.length<=cN:=by unfold cN;omega
   have ld:∀ j,j<3->∀ h,ag none (.dN (rules.l.flatMap aO) (i*3+j)) h=(aO r)[j]?:=fun j hj h=>fL gE hv hj;have ld0:∀ h,ag none (.dN (rules.l.flatMap aO) (i*3)) h=some (.str r.name):=fun h=>ld 0 (by omega) h
   have hal:(cB (rules.l.take i)).length<=1260:=by
    have h1:=ue (rules.l.take i) fun q hq=>uV q (mem_of_mem_take hq);have h2:=length_take_le i rules.l;omega
   obtain ⟨a1,h1,p1,p2,p3,p4,p5,p6⟩:=o.push oR (fun x=>rfl) (zero_le _) (bytes:=24) (by omega) (r.name,(r.args.l.length:Int));rw [F.cK.aT];simp only [e0,e3,e4,aR,reduceAdd,reduceEqDiff,reduceIte,bh hi,aW rules hi,ld0,ld 1 (by omega),aO,P7,P8,p1]
   refine aE 0 r.body.l.length (zero_le _) (fun j e h2=>∃ a,Own nB 2 0 h2 a (cB (rules.l.take i)++(r.name,(r.args.l.length:Int)) :: dV (r.body.l.take j))/\e 0=an aO 3 rules/\e 3=a/\e 4 = .int .i64 (i:Int)/\e 5 = .int .i64 (j:Int))
    ⟨a1,by simpa [dV] using p2,e0,rfl,e4,rfl⟩ ?_ ?_
   ·rintro j e h2 _ hj ⟨a,o,e0,e3,e4,e5⟩ K2 pH gm rY F5;have hc:r.body.l[j]?=some r.body.l[j]:=ep hj;generalize r.body.l[j]=c at hc;obtain ⟨H2,qX,k1,ko,kn⟩:=cr (h:=h2) (zs:=[.int .i64 0,.bool false,.str [],.ax]) (cs:=bL c) (n:=4) rfl rfl (iC c);have x2:bu h2 H2:=⟨by omega,fun b hb=>ko b (by omega)⟩
    have iP:=DD hc;rw [F.cK.dr];simp only [e0,e3,e4,e5,aR,reduceAdd,reduceEqDiff,reduceIte,aW rules hi,ld 2 (by omega),aO,bh hj,aW r.body hj,dm iB hc,qX];simp only [aR,reduceAdd,reduceEqDiff,reduceIte,aj k1,bL,cA];by_cases k0:c.kind=0
    ·rw [if_pos k0] at iP
     have hcl:(dV (r.body.l.take j)).length<=20:=by
      have h1:=qm (r.body.l.take j);have h2:=length_take_le' j r.body.l;omega
     obtain ⟨a2,h3,s1,s2,s3,s4,s5,s6⟩:=(o.ext x2).push oR (fun x=>rfl) (zero_le _) (bytes:=24) (by rw [length_append,length_cons];omega) (c.name,(c.args.l.length:Int));simp only [fE k0,aL,aR,reduceAdd,reduceEqDiff,reduceIte,aj k1,bL,P7,P8,s1,aI hj AO];refine pH _ _ ⟨a2,?_,e0,rfl,e4,rfl⟩;rw [iP];simpa using s2
    ·rw [if_neg k0,append_nil] at iP;simp only [eT k0,aJ,aI hj AO,aq];exact pH _ _ ⟨a,by rw [iP];exact o.ext x2,e0,e3,e4,rfl⟩
   ·rintro e h2 ⟨a,o,e0,e3,e4,e5⟩ K2 gm;rw [F.cK.dr];simp only [e0,e4,e5,aR,reduceAdd,reduceEqDiff,reduceIte,aW rules hi,ld 2 (by omega),aO,aX];rw [gm,F.cK.cz];simp only [e4,aR,reduceAdd,reduceEqDiff,reduceIte,aI hi hbig];refine hn _ _ ⟨a,?_,e0,e3,rfl⟩;rw [kC (dL _)] at o
    have:cB (rules.l.take (i+1))=cB (rules.l.take i)++(r.name,(r.args.l.length:Int)) :: dV r.body.l:=by
     unfold cB;rw [take_add_one,hv];simp [ud]
    rw [this];exact o
  ·rintro e h' ⟨a,o,e0,e3,e4⟩ K' hx;rw [F.cK.aT];simp only [e0,e4,aR,reduceAdd,reduceEqDiff,reduceIte,aX];rw [hx,F.cK.aF];rw [kC (dL _)] at o;simp only [bO,reduceEqDiff,reduceIte,e3]
   obtain ⟨x,jO,gm⟩:=o.K7 (fun v y hy=>by
    simp only [nB,mem_cons,not_mem_nil,_root_.or_false] at hy
    rcases hy with rfl|rfl<;>exact .scalar _ rfl)
   exact cw.2 ⟨a,x,rfl,jO,gm⟩
 refine main.frozen (by simp [AV.cL,cj fR]) fun o h' ho=>?_;obtain ⟨v,x,rfl,hx,hf⟩:=cw.1 ho;exact ⟨v,_,rfl,hf,hK x hx⟩
theorem AQ{f:St->(AX->St->Bool)->Bool}{K:AX->St->Bool}{defs:List pJ}{e0:Env}{h0:Heap}(I:Nat->Env->Heap->Prop)(m:Nat)(hI:I m e0 h0)
  (step:∀ m e h,I m e h->∀ K':AX->St->Bool,(∀ m' e' h',m'<m->I m' e' h'->K' .normal ⟨e',n,defs,h'⟩=true)->(∀ id s,K' (.exit id) s=K (.exit id) s)->(∀ s,K' .ret s=K .ret s)->f ⟨e,n,defs,h⟩ K'=true):bY f ⟨e0,n,defs,h0⟩ K=true:=
 lp I m hI fun m e h hi=>step m e h hi _ (fun m' e' h' hlt vr=>rA (I:=I) m' hlt vr) (fun _ _=>rfl) (fun _=>rfl)
theorem xp:∀ (l:List b6) (s:b6),(eM l s).length<=l.length+1
 |[],s=>dL _
 |x :: l,s=>by
  have:=xp l s;rw [eM];split
  ·rw [length_cons,length_cons];omega
  ·split
   ·omega
   ·simp
def eG(rs:List aP):List b6:=rs.foldl (fun o r=>eM o r.name) []
theorem N3{rs:List aP}{i:Nat}{r:aP}(hr:rs[i]?=some r):eG (rs.take (i+1))=eM (eG (rs.take i)) r.name:=by
 unfold eG;rw [take_add_one,hr];simp
theorem se:∀ (rs:List aP) (o:List b6),(rs.foldl (fun o r=>eM o r.name) o).length<=o.length+rs.length
 |[],o=>dL _
 |r :: rs,o=>by
  have h1:=se rs (eM o r.name);have h2:=xp o r.name;rw [foldl_cons,length_cons];omega
theorem oY(rs:List aP):(eG rs).length<=rs.length:=by
 have:=se rs [];simpa [eG] using this
theorem oZ:∀ (rs:List aP) (o:List b6),r9 o->r9 (rs.foldl (fun o r=>eM o r.name) o)
 |[],o,h=>h
 |r :: rs,o,h=>oZ rs _ (wm h r.name)
theorem pV(rs:List aP):r9 (eG rs):=oZ rs [] List.Pairwise.nil
theorem sg{s:b6}:∀ (rs:List aP) (o:List b6),s ∈ rs.foldl (fun o r=>eM o r.name) o↔s ∈ o\/s ∈ bE rs
 |[],o=>by simp [bE]
 |r :: rs,o=>by
  rw [foldl_cons,sg rs,rN];simp [bE,_root_.or_assoc]
theorem fS(rs:List aP):s ∈ eG rs↔s ∈ bE rs:=by
 have:=sg (s:=s) rs [];simpa [eG] using this
theorem AR{l:List b6}(h:r9 l):l.Nodup:=by
 unfold r9 at h;unfold List.Nodup;exact h.imp fun {a b} pG e=>by subst e;rw [nY] at pG;cases pG
theorem dA{rules:Sl aP}(sJ:rules.l.length<=60){h:Heap}{K:Out->Heap->Bool}(hK:∀ x:Sl b6,x.l=eG rules.l->K (.ret (an encS 1 x)) h=true) :
  Sem TP 35 [an aO 3 rules] h K:=by
 have hbig:rules.l.length<=cN:=by unfold cN;omega
 have main:Sem TP 35 [an aO 3 rules] Heap.empty (fun o h'=>yes (∃ v,∃ x:Sl b6,o = .ret v/\x.l=eG rules.l/\Fz true h' v (an encS 1 x))):=by
  refine F.yt ?_;rw [F.zB];refine aE 0 rules.l.length (zero_le _) (fun i e h'=>∃ a,Own encS 1 0 h' a (eG (rules.l.take i))/\e 0=an aO 3 rules/\e 3=a/\e 4 = .int .i64 (i:Int)) ⟨.ax,.nil,rfl,rfl,rfl⟩ ?_ ?_
  ·rintro i e h' _ hi ⟨a,o,e0,e3,e4⟩ K' hn hx hr hp;have hv:rules.l[i]?=some rules.l[i]:=ep hi;generalize rules.l[i]=r at hv;have ld:∀ h,ag none (.dN (rules.l.flatMap aO) (i*3)) h=some (.str r.name):=fun h=>fL gE hv (by omega:0<3);have iP:=N3 hv;rw [F.dA.aT];simp only [e0,e3,e4,aR,reduceAdd,reduceEqDiff,reduceIte,bh hi,aW rules hi,ld];refine ah (er o (zero_le _) (by have h1:=oY (rules.l.take i);have h2:=length_take_le i rules.l;omega) fun a1 h1 x1 o1=>?_);simp only [aR,reduceAdd,reduceEqDiff,reduceIte,aI hi hbig];exact hn _ _ ⟨a1,by rw [iP];exact o1,e0,rfl,rfl⟩
  ·rintro e h' ⟨a,o,e0,e3,e4⟩ K' hx;rw [F.dA.aT];simp only [e0,e4,aR,reduceAdd,reduceEqDiff,reduceIte,aX];rw [hx,F.dA.aF];rw [kC (dL _)] at o;simp only [bO,reduceEqDiff,reduceIte,e3]
   obtain ⟨x,jO,gm⟩:=o.K7 (fun v y hy=>by
    simp only [encS,mem_cons,not_mem_nil,_root_.or_false] at hy
    subst hy;exact .scalar _ rfl)
   exact cw.2 ⟨a,x,rfl,jO,gm⟩
 refine main.frozen (by simp [AV.cL,cj fR]) fun o h' ho=>?_;obtain ⟨v,x,rfl,hx,hf⟩:=cw.1 ho;exact ⟨v,_,rfl,hf,hK x hx⟩
theorem dX{x:Sl b6}{s:b6}(hx:x.l.length<=cN){h:Heap}{K:Out->Heap->Bool}(zR:∀ i:Nat,x.l[i]?=some s->K (.ret (.int .i64 (i:Int))) h=true)(y9:s ∉ x.l->K (.ret (.int .i64 (-1))) h=true):Sem TP 128 [an encS 1 x,.str s] h K:=by
 refine F.Bb ?_;rw [F.CP];refine aE 0 x.l.length (zero_le _) (fun i e h'=>h'=h/\e 0=an encS 1 x/\e 1 = .str s/\e 5 = .int .i64 (i:Int)/\s ∉ x.l.take i) ⟨rfl,rfl,rfl,rfl,by simp⟩ ?_ ?_
 ·rintro i e h' _ hi ⟨rfl,e0,e1,e5,ht⟩ K' hn fK hr hp;have hv:x.l[i]?=some x.l[i]:=ep hi;generalize x.l[i]=t at hv;rw [F.dX.aT];simp only [e0,e1,e5,aR,reduceAdd,reduceEqDiff,reduceIte,bh hi,aW x hi,jw hv,rM];by_cases hq:t=s
  ·subst hq;simp only [decide_true,aL];rw [hr,F.dX.bB];exact zR i hv
  ·simp only [eT hq,aJ,aI hi hx,aq];refine hn _ _ ⟨rfl,e0,e1,rfl,?_⟩;rw [take_add_one,hv];simp only [toList_some,mem_append,mem_singleton];exact fun h=>h.elim ht fun h=>hq h.symm
 ·rintro e h' ⟨rfl,e0,e1,e5,ht⟩ K' fK;rw [F.dX.aT];simp only [e0,e5,aR,reduceAdd,reduceEqDiff,reduceIte,aX];rw [fK,F.dX.aF];rw [kC (dL _)] at ht;exact y9 ht
end
end Go.AM