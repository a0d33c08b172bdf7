/- Parts of the proof. Conditions: none. -/
import Derived.Test.YtfdanacohcffmaaGreatKp2
import Derived.Test.YtfdanacohcffmaaGreatKp15
import Derived.Test.YtfdanacohcffmaaGreatKp18
set_option linter.unusedSimpArgs false
set_option linter.unusedVariables false
set_option maxHeartbeats 2000000
namespace Go.AM
open List Nat Bool Option
open Go Go.Proofs
noncomputable section
variable {h h':Heap} {K:Out->Heap->Bool} {i b ck k sz:Nat} {α:Type} {es:List Entry} {a:AV} {d:List Int} {l:List cc} {m:gq} {n v:Int} {s:cc}
def ri(n:Int):Bool:=(decide (97<=n)&&decide (n<=122))||(decide (65<=n)&&decide (n<=90))
def Bz(n:Int):Bool:=decide (48<=n)&&decide (n<=57)
def words:List cc:=[[97,110,100],[111,114],[110,111,116],[115,111,109,101],[97,108,108],[108,102,112],[112,102,112],[116,99],[101,120,105,115,116,115],[116,114,117,101],[102,97,108,115,101]]
def Ip(s:cc):Bool:=words.any fun w=>s==w
theorem CJ(hK:K (.ret (.bool (ri n))) h=true):Sem TP 180 [.int .u8 n] h K:=by
 refine F.DA ?_;rw [F.Ft];simp only [ug,Cq,dr,cu];unfold ri at hK;by_cases h1:97<=n<;>by_cases h2:n<=122<;>by_cases h3:65<=n<;>by_cases h4:n<=90<;>simpa [h1,h2,h3,h4] using hK
theorem OD(hK:K (.ret (.bool (Bz n))) h=true):Sem TP 182 [.int .u8 n] h K:=by
 refine F.Fu ?_;rw [F.Hv];simp only [ug,Cq,dr,cu];unfold Bz at hK;by_cases h1:48<=n<;>by_cases h2:n<=57<;>simpa [h1,h2] using hK
theorem CK(hK:K (.ret (.bool (ri n))) h=true):Sem TP 150 [.int .u8 n] h K:=by
 refine F.DC ?_;rw [F.Fv];simp only [ug,Cq,dr,cu];unfold ri at hK;by_cases h1:97<=n<;>by_cases h2:n<=122<;>by_cases h3:65<=n<;>by_cases h4:n<=90<;>simpa [h1,h2,h3,h4] using hK
theorem OE(hK:K (.ret (.bool (Bz n))) h=true):Sem TP 152 [.int .u8 n] h K:=by
 refine F.Fw ?_;rw [F.Hy];simp only [ug,Cq,dr,cu];unfold Bz at hK;by_cases h1:48<=n<;>by_cases h2:n<=57<;>simpa [h1,h2] using hK
theorem Ry(hK:K (.ret (.bool (Ip s))) h=true):Sem TP 181 [.str s] h K:=by
 refine F.Hu ?_;rw [F.JE];simp only [Hi,dr,cu];simp only [Ip,words,any_cons,any_nil,Bool.or_false] at hK
 repeat (first|exact hK|(generalize (s==_)=b at hK ⊢;cases b<;>simp only [aL,aK,Bool.true_or,Bool.false_or] at hK ⊢<;>try exact hK))
theorem Rz(hK:K (.ret (.bool (Ip s))) h=true):Sem TP 151 [.str s] h K:=by
 refine F.Hw ?_;rw [F.JF];simp only [Hi,dr,cu];simp only [Ip,words,any_cons,any_nil,Bool.or_false] at hK
 repeat (first|exact hK|(generalize (s==_)=b at hK ⊢;cases b<;>simp only [aL,aK,Bool.true_or,Bool.false_or] at hK ⊢<;>try exact hK))
def okB(b:UInt8):Bool:=ri b.toNat||Bz b.toNat
def fG(s:cc):Bool:=match s with
 |[]=>false
 |c :: _=>decide (s.length<=12)&&(ri c.toNat&&(!Ip s&&s.all okB))
theorem lE{p:α->Bool}{l:List α}{a:α}(ha:l[i]?=some a)(ht:(l.take i).all p=true)(hp:p a=true):(l.take (i+1)).all p=true:=by
 rw [take_add_one,ha];simp [ht,hp]
theorem all_false{p:α->Bool}{l:List α}{a:α}(ha:l[i]?=some a)(hp:p a=false):l.all p=false:=by
 rw [eq_false_iff];intro h;rw [List.all_eq_true] at h;have:=h a (ij ha);rw [hp] at this;cases this
theorem fL{s:cc}{h:Heap}{K:Out->Heap->Bool}(hK:K (.ret (.bool (fG s))) h=true):Sem TP 153 [.str s] h K:=by
 refine F.Hr ?_;rw [F.JC]
 cases s with
 |nil=>simpa [fG,zH,vQ,aq,aa] using hK
 |cons c s'=>
  have h0:(c :: s')[0]?=some c:=rfl;simp only [zH,vQ,vR,dr,cu];have h1:decide (((c :: s').length:Int)<1)=false:=by simp;omega
  simp only [h1,aK];by_cases h2:(c :: s').length<=12
  ·have h3:decide ((12:Int)<((c :: s').length:Int))=false:=by simp at h2 ⊢;omega
   simp only [h3,aK];rw [show oA (.str (c :: s')) (I6 0)=some (.int .u8 (c.toNat:Int)) from Gu (i:=0) h0];simp only [dr];refine af (CJ ?_);simp only [gz,tr,dr,cu]
   cases hl:ri c.toNat with
   |false=>simpa [fG,hl] using hK
   |true=>
    simp only [Bool.not_true,aK];refine af (Ry ?_);simp only [gz,cu]
    cases hw:Ip (c :: s') with
    |true=>simpa [fG,hl,hw] using hK
    |false=>
     simp only [aK];have hn:fG (c :: s')=(c :: s').all okB:=by simp only [fG,hl,hw,Bool.not_false,Bool.true_and];rw [fh h2,Bool.true_and]
     rw [hn] at hK;have h4:((c :: s').take 1).all okB=true:=by simp [okB,hl]
     have h5:1<=(c :: s').length:=(by simp);clear h0 h1 h3 hl hw hn;generalize (c :: s')=s at hK h2 h4 h5 ⊢;refine aB 1 s.length h5 (fun i e h'=>h'=h/\e 0 = .str s/\e 3=I6 (i:Int)/\(s.take i).all okB=true) ⟨rfl,rfl,rfl,h4⟩ ?_ ?_
     ·rintro i e h' _ hi ⟨rfl,e0,e3,ht⟩ K' hn hx hr hp;have hb:s[i]?=some s[i]:=jQ hi;have hlt:decide ((i:Int)<(s.length:Int))=true:=by simp;omega
      rw [F.fL.aP];simp only [e0,e3,zH,vQ,Gu hb,dr,cu,hlt,aL];refine af (CJ ?_);simp only [gz,tr,dr,cu]
      cases hl:ri s[i].toNat with
      |true=>
       simp only [Bool.not_true,aK,j9 (a:=(i:Int)) (b:=1) (by omega) (by omega),dr];exact hn _ _ ⟨rfl,e0,rfl,lE hb ht (by simp [okB,hl])⟩
      |false=>
       simp only [Bool.not_false,aL];refine af (OD ?_);simp only [gz,tr,dr,cu]
       cases hd:Bz s[i].toNat with
       |true=>
        simp only [Bool.not_true,aK,j9 (a:=(i:Int)) (b:=1) (by omega) (by omega),dr];exact hn _ _ ⟨rfl,e0,rfl,lE hb ht (by simp [okB,hd])⟩
       |false=>
        simp only [Bool.not_false,aL];rw [hr,F.fL.bg];have:s.all okB=false:=all_false hb (by simp [okB,hl,hd]);rw [this] at hK;exact hK
     ·rintro e h' ⟨rfl,e0,e3,ht⟩ K' hx;have hlt:decide ((s.length:Int)<(s.length:Int))=false:=by simp
      rw [F.fL.aP];simp only [e0,e3,zH,vQ,dr,cu,hlt,aK];rw [hx,F.fL.aC];rw [jD (dK _)] at ht;rw [ht] at hK;exact hK
  ·have h3:decide ((12:Int)<((c :: s').length:Int))=true:=by simp at h2 ⊢;omega
   simp only [h3,aL];have:fG (c :: s')=false:=by simp only [fG];rw [eR h2];rfl
   rw [this] at hK;exact hK
theorem eX{s:cc}{h:Heap}{K:Out->Heap->Bool}(hK:K (.ret (.bool (fG s))) h=true):Sem TP 107 [.str s] h K:=by
 refine F.Ht ?_;rw [F.JD]
 cases s with
 |nil=>simpa [fG,Hi,aq,aa] using hK
 |cons c s'=>
  have h0:(c :: s')[0]?=some c:=rfl;have h1:((c :: s')==([]:cc))=false:=rfl;simp only [zH,Hi,vR,dr,cu,h1,aK];by_cases h2:(c :: s').length<=12
  ·have h3:decide ((12:Int)<((c :: s').length:Int))=false:=by simp at h2 ⊢;omega
   simp only [h3,aK];rw [show oA (.str (c :: s')) (I6 0)=some (.int .u8 (c.toNat:Int)) from Gu (i:=0) h0];simp only [dr];refine af (CK ?_);simp only [gz,tr,dr,cu]
   cases hl:ri c.toNat with
   |false=>simpa [fG,hl] using hK
   |true=>
    simp only [Bool.not_true,aK];refine af (Rz ?_);simp only [gz,cu]
    cases hw:Ip (c :: s') with
    |true=>simpa [fG,hl,hw] using hK
    |false=>
     simp only [aK];have hn:fG (c :: s')=(c :: s').all okB:=by simp only [fG,hl,hw,Bool.not_false,Bool.true_and];rw [fh h2,Bool.true_and]
     rw [hn] at hK;have h4:((c :: s').take 1).all okB=true:=by simp [okB,hl]
     have h5:1<=(c :: s').length:=(by simp);clear h0 h1 h3 hl hw hn;generalize (c :: s')=s at hK h2 h4 h5 ⊢;refine aB 0 s.length (zero_le _) (fun i e h'=>h'=h/\e 0 = .str s/\e 23=I6 (i:Int)/\e 22=I6 (s.length:Int)/\(s.take i).all okB=true) ⟨rfl,rfl,rfl,rfl,rfl⟩ ?_ ?_
     ·rintro i e h' _ hi ⟨rfl,e0,e3,Gw,ht⟩ K' hn hx hr hp;have hb:s[i]?=some s[i]:=jQ hi;have hlt:decide ((i:Int)<(s.length:Int))=true:=by simp;omega
      rw [F.eX.aP];simp only [e0,e3,Gw,vQ,Gu hb,dr,cu,hlt,aL];refine af (CK ?_);simp only [gz,tr,dr,cu]
      cases hl:ri s[i].toNat with
      |true=>
       simp only [Bool.not_true,aK,j9 (a:=(i:Int)) (b:=1) (by omega) (by omega),dr];exact hn _ _ ⟨rfl,e0,rfl,Gw,lE hb ht (by simp [okB,hl])⟩
      |false=>
       simp only [Bool.not_false,aL];refine af (OE ?_);simp only [gz,tr,dr,cu]
       cases hd:Bz s[i].toNat with
       |true=>
        simp only [Bool.not_true,aK,j9 (a:=(i:Int)) (b:=1) (by omega) (by omega),dr];exact hn _ _ ⟨rfl,e0,rfl,Gw,lE hb ht (by simp [okB,hd])⟩
       |false=>
        simp only [Bool.not_false,aL];rw [hr,F.eX.bg];have:s.all okB=false:=all_false hb (by simp [okB,hl,hd]);rw [this] at hK;exact hK
     ·rintro e h' ⟨rfl,e0,e3,Gw,ht⟩ K' hx;have hlt:decide ((s.length:Int)<(s.length:Int))=false:=by simp
      rw [F.eX.aP];simp only [e0,e3,Gw,vQ,dr,cu,hlt,aK];rw [hx,F.eX.aC];rw [jD (dK _)] at ht;rw [ht] at hK;exact hK
  ·have h3:decide ((12:Int)<((c :: s').length:Int))=true:=by simp at h2 ⊢;omega
   simp only [h3,aL];have:fG (c :: s')=false:=by simp only [fG];rw [eR h2];rfl
   rw [this] at hK;exact hK
theorem gh{x:Sl Int}(hv:x.l[i]?=some v):au none (.dL (x.l.flatMap encI) (i*1)) h=some (I6 v):=by
 rw [vO pL hv];rfl
def jN(n:Int)(l:List Int):Bool:=l.all fun x=>!decide (x<0)&&!decide (n<=x)
def iv(n:Int):AV:=I6 n
theorem wh(d:List Int):d.map iv=d.flatMap encI:=by
 induction d with
 |nil=>rfl
 |cons a d ih=>rw [map_cons,flatMap_cons,ih];rfl
theorem nh{n:Nat}{k:IntKind}(h:i<n):jw 1 (.slice b 0 n 1) (.int k (i:Int))=some (.ptr b i):=by simp [jw,asNat,h]
theorem pR(hb:h.get b=sC (d.map iv))(hv:d[i]?=some v):au none (.ptr b i) h=some (I6 v):=by
 rw [aj hb,u0,getElem?_map,hv];rfl
theorem tE(hb:h.get b=sC (d.map iv))(hi:i<d.length):aS 1 (.ptr b i) (I6 v) h=some (h.set b (.cells ((d.set i v).map iv))):=by
 rw [cj (n:=1) hb rfl rfl (by simp;omega),map_set];rfl
theorem ad1(n:Nat):lU [I6 0] n=(replicate n (0:Int)).map iv:=by
 induction n with
 |zero=>rfl
 |succ n ih=>rw [lU,ih];rfl
theorem zO{n:Nat}(hn:n<=1000000)(h:Heap):gE 1 8 [I6 0] (I6 (n:Int)) (I6 (n:Int)) h=some (.slice h.next 0 n 1,h.alloc (.cells ((replicate n (0:Int)).map iv))):=by
 have:(8*(n:Int))<=140737488355328:=by omega
 simp [gE,Dd,this,ad1]
theorem OF(hb:h.get b=sC (d.map iv)):Fz true h (.slice b 0 d.length 1) (dH (some d)):=by
 refine .slice b 0 d.length 1 _ _ hb (by rw [wh]) fun i x y hx hy=>?_;rw [wh,hy] at hx;cases hx;rw [<- wh,getElem?_map] at hy;obtain ⟨v,hv,rfl⟩:=map_eq_some_iff.1 hy;exact .scalar _ rfl
theorem OG{n:Nat}(h1:1<=n)(h2:n<=cw):aF .sub (I6 (n:Int)) (I6 1)=some (I6 ((n-1:Nat):Int)):=by
 unfold cw at h2;rw [uf (by omega) (by omega)];congr 2;omega
theorem W5(a b:Int):∃ v,aF .add (I6 a) (I6 b)=some (I6 v):=⟨_,Te a b⟩
def xK(n:Nat):List Int->Nat->Nat
 |[],r=>r
 |x :: l,r=>xK n l (r*n+x.toNat)
def mg(n:Nat)(l:List Int):Nat:=xK n l 0
inductive Own {α:Type} (enc:α->List AV) (sz k:Nat) (h:Heap):AV->List α->Prop
 |nil:Own enc sz k h .ai []
 |row (b:Nat) (l:List α):k<=b->b<h.next->h.get b=sC (l.flatMap enc)->Own enc sz k h (.slice b 0 l.length sz) l
variable {α:Type} {enc:α->List AV} {sz k:Nat}
theorem Own.len{l:List α}(o:Own enc sz k h a l):bK .slice a h'=some (I6 (l.length:Int)):=by
 cases o<;>rfl
theorem Own.ext{l:List α}(o:Own enc sz k h a l)(hx:aV h h'):Own enc sz k h' a l:=by
 cases o with
 |nil=>exact .nil
 |row b l h1 h2 h3=>exact .row b l h1 (Nat.lt_of_lt_of_le h2 hx.next) (by rw [hx.get b h2];exact h3)
theorem Own.get{l:List α}(o:Own enc sz k h a l)(he:∀ x,(enc x).length=sz){v:α}(hv:l[i]?=some v) :
  ∃ b,k<=b/\b<h.next/\(∀ q:IntKind,jw sz a (.int q (i:Int))=some (.ptr b (i*sz)))/\au (some sz) (.ptr b (i*sz)) h=some (.agg (enc v))/\∀ m,m<sz->au none (.ptr b (i*sz+m)) h=(enc v)[m]?:=by
 cases o with
 |nil=>simp at hv
 |row b l h1 h2 h3=>
  have hi:=(lR.1 hv).1;refine ⟨b,h1,h2,fun q=>by simp [jw,asNat,hi],?_,fun m hm=>by rw [aj h3,u0,ue he l i m v hv hm]⟩;rw [aj h3];have hp:=sg he l i v hv;simp only [kQ]
  have hlen:i*sz+sz<=(l.flatMap enc).length:=by
   rw [eS he];have:(i+1)*sz<=l.length*sz:=mul_le_mul_right sz hi;rw [succ_mul] at this;exact this
  rw [if_pos (by simpa using hlen),hp]
section
variable {α:Type} {enc:α->List AV} {sz k:Nat}
structure Row (enc:α->List AV) (sz:Nat) (h:Heap) (x:AV) (l:List α):Prop where
 len:lJ x=some l.length
 cells:gW sz l.length x h=some (l.flatMap enc)
theorem KQ(he:∀ x,(enc x).length=sz):∀ (l:List α) (i:Nat),(l.flatMap enc).take (i*sz)=(l.take i).flatMap enc
 |[],i=>by simp
 |x :: l,0=>by simp
 |x :: l,i+1=>by
  rw [flatMap_cons,take_succ_cons,flatMap_cons,take_append,he,succ_mul,Nat.add_sub_cancel,KQ he l i,jD (by rw [he];omega)]
theorem KR(he:∀ x,(enc x).length=sz):∀ (l:List α) (i:Nat),(l.flatMap enc).drop (i*sz)=(l.drop i).flatMap enc
 |[],i=>by simp
 |x :: l,0=>by simp
 |x :: l,i+1=>by
  rw [flatMap_cons,drop_succ_cons,drop_append,he,succ_mul,Nat.add_sub_cancel,KR he l i,drop_of_length_le (by rw [he];omega),nil_append]
theorem Own.aaz{l:List α}(o:Own enc sz k h a l)(he:∀ x,(enc x).length=sz)(hi:i<=l.length) :
  ∃ x,(∀ q:IntKind,fR (some sz) a none (some (.int q (i:Int)))=some x)/\∀ h',aV h h'->Row enc sz h' x (l.take i):=by
 cases o with
 |nil=>simp at hi;subst hi;exact ⟨.ai,fun q=>by simp [fR,lJ,pH,asNat],fun h' _=>⟨rfl,rfl⟩⟩
 |row b l h1 h2 h3=>
  refine ⟨.slice b 0 i sz,fun q=>by simp [fR,lJ,pH,asNat,hi],fun h' hx=>⟨by simp [lJ,Nat.min_eq_left hi],?_⟩⟩;have h3':h'.get b=sC (l.flatMap enc):=by rw [hx.get b h2];exact h3
  have hl:(l.flatMap enc).length=l.length*sz:=eS he l;have hm:(l.take i).length=i:=by rw [length_take,Nat.min_eq_left hi]
  simp only [gW,h3',if_true,Nat.zero_add,hl,hm,drop_zero];rw [if_pos (mul_le_mul_right sz hi),KQ he]
theorem Own.aaA{l:List α}(o:Own enc sz k h a l)(he:∀ x,(enc x).length=sz)(hi:i<=l.length) :
  ∃ x,(∀ q:IntKind,fR (some sz) a (some (.int q (i:Int))) none=some x)/\∀ h',aV h h'->Row enc sz h' x (l.drop i):=by
 cases o with
 |nil=>simp at hi;subst hi;exact ⟨.ai,fun q=>by simp [fR,lJ,pH,asNat],fun h' _=>⟨rfl,rfl⟩⟩
 |row b l h1 h2 h3=>
  refine ⟨.slice b (i*sz) (l.length-i) sz,fun q=>by simp [fR,lJ,pH,asNat,hi],fun h' hx=>⟨by simp [lJ],?_⟩⟩;have h3':h'.get b=sC (l.flatMap enc):=by rw [hx.get b h2];exact h3
  have hl:(l.flatMap enc).length=l.length*sz:=eS he l;have hm:(l.drop i).length=l.length-i:=by rw [length_drop]
  simp only [gW,h3',if_true,hl,hm];have hle:i*sz+(l.length-i)*sz<=l.length*sz:=by rw [<- Nat.add_mul];exact mul_le_mul_right sz (by omega)
  rw [if_pos hle,KR he,jD];rw [eS he,hm];exact dK _
theorem yI(h1:∀ x,aW (enc x)=true):∀ l:List α,aW (l.flatMap enc)=true
 |[]=>rfl
 |x :: l=>by
  have app:∀ a b:List AV,aW a=true->aW b=true->aW (a++b)=true:=by
   intro a b ha hb
   induction a with
   |nil=>exact hb
   |cons y a ih=>
    simp only [aW,cons_append,and_eq_true] at ha ⊢;exact ⟨ha.1,ih ha.2⟩
  rw [flatMap_cons];exact app _ _ (h1 x) (yI h1 l)
def bR:AV->Option Nat
 |.slice b _ _ _=>some b
 |_=>none
theorem Own.append{x:AV}{l m:List α}(o:Own enc sz k h a l)(he:∀ x,(enc x).length=sz)(h1:∀ x,aW (enc x)=true)(r:Row enc sz h x m)(hk:k<=h.next){bytes:Nat}(hroom:(l.length+m.length)*bytes<=cz) :
  ∃ a' h',bB sz bytes a x h=some (a',h')/\Own enc sz k h' a' (l++m)/\(∀ c,c<h.next->bR a≠some c->h'.get c=h.get c)/\h.next<=h'.next/\(m≠[]->∀ c,bR a'=some c->h.next<=c):=by
 cases o with
 |nil=>
  rw [length_nil,Nat.zero_add] at hroom
  cases m with
  |nil=>
   refine ⟨.ai,h,?_,.nil,fun _ _ _=>rfl,dK _,fun h=>absurd rfl h⟩;have hc:=r.cells;have hl:=r.len;simp only [length_nil] at hc hl;simp [bB,hl,hc]
  |cons y m=>
   refine ⟨.slice h.next 0 (y :: m).length sz,h.alloc (.cells ((y :: m).flatMap enc)),?_,.row _ _ hk (lt_succ_self _) (ak _ _),fun c hc _=>by rw [Heap.aN,if_neg (by omega)],le_succ _,fun _ c hc=>by cases hc;exact dK _⟩;have h0:¬ (y :: m).length=0:=by simp
   simp only [bB,r.len,r.cells,if_neg h0];rw [if_pos (by rw [and_eq_true];exact ⟨fh hroom,yI h1 _⟩)]
 |row b l hb1 hb2 hb3=>
  cases m with
  |nil=>
   rw [append_nil];refine ⟨.slice b 0 l.length sz,h,?_,.row b l hb1 hb2 hb3,fun _ _ _=>rfl,dK _,fun h=>absurd rfl h⟩;have hc:=r.cells;have hl:=r.len;simp only [length_nil] at hc hl;simp [bB,hl,hc]
  |cons y m=>
   have h0:¬ (y :: m).length=0:=by simp
   have hl:(l.flatMap enc).length=l.length*sz:=eS he l;refine ⟨.slice h.next 0 (l++y :: m).length sz,(h.set b .dead).alloc (.cells ((l++y :: m).flatMap enc)),?_,.row _ _ hk ?_ ?_,fun c hc hne=>?_,?_,fun _ c hc=>by cases hc;exact dK _⟩
   ·simp only [bB,r.len,r.cells,if_neg h0,if_true,hb3,drop_zero,Nat.zero_add];rw [if_pos (by rw [and_eq_true,and_eq_true];exact ⟨⟨fh hroom,yI h1 _⟩,fh (by omega)⟩),<- hl,take_length,flatMap_append,length_append]
   ·rw [Heap.aD,Heap.aT];omega
   ·have:=ak (h.set b .dead) (.cells ((l++y :: m).flatMap enc))
    rwa [Heap.aT] at this
   ·rw [Heap.aN,Heap.aT,if_neg (by omega),Heap.aG,if_neg (fun e=>hne (by rw [e];rfl))]
   ·rw [Heap.aD,Heap.aT];omega
end
theorem tF(s:cc):aW (encS s)=true:=rfl
def strLt(a b:cc):Bool:=Op.bytesLess a b
def gv:List cc->cc->List cc
 |[],s=>[s]
 |x :: l,s=>if strLt x s=true then x :: gv l s else if x=s then x :: l else s :: x :: l
theorem aaB(a b:cc):aF .lss (.str a) (.str b)=some (.bool (strLt a b)):=by simp [aF,strLt]
theorem um(a b:cc):(a==b)=decide (a=b):=by
 by_cases h:a=b
 ·subst h;simp
 ·rw [eR h];simp [h]
theorem OH{x:cc}(hx:l[i]?=some x):l.take i++gv (l.drop i) s=if strLt x s=true then l.take (i+1)++gv (l.drop (i+1)) s else if x=s then l else l.take i++(s :: l.drop i):=by
 have h1:=(lR.1 hx).1
 have hd:l.drop i=x :: l.drop (i+1):=by
  rw [drop_eq_getElem_cons h1];rw [jQ h1] at hx;cases hx;rfl
 rw [hd,gv];split
 ·rw [take_add_one,hx];simp
 ·split
  ·rw [<- hd,take_append_drop]
  ·rfl
theorem Own.ge{enc:α->List AV}{l:List α}(o:Own enc sz k h a l){c:Nat}(hc:bR a=some c):k<=c:=by
 cases o with
 |nil=>cases hc
 |row b l h1 _ _=>cases hc;exact h1
theorem Own.CL{enc:α->List AV}{j:Nat}{l:List α}(o:Own enc sz k h a l)(hj:j<=k):Own enc sz j h a l:=by
 cases o with
 |nil=>exact .nil
 |row b l h1 h2 h3=>exact .row b l (Nat.le_trans hj h1) h2 h3
theorem fP{k:Nat}{h:Heap}{a:AV}{l:List cc}{s:cc}(o:Own encS 1 k h a l)(hk:k<=h.next)(hl:l.length<=100000){K:Out->Heap->Bool}
  (hK:∀ a' h',aV h h'->Own encS 1 k h' a' (gv l s)->K (.ret a') h'=true):Sem TP 79 [a,.str s] h K:=by
 have hbig:l.length<=cw:=by unfold cw;omega
 refine F.DD ?_;rw [F.Fy]
 have app:∀ i,i<=l.length->gv l s=l.take i++(s :: l.drop i)->∀ e:Env,e 0=a->e 1 = .str s->e 5=I6 (i:Int) ->
   (aa (eN [] [] []) fun c11=>
    aa (fR (some 1) (e 0) none (some (e 5))) fun x12=>
    aa (eN [(.str [])] [(0,1)] [(e 1)]) fun c13=>
    aa (fR (some 1) (e 0) (some (e 5)) none) fun x14=>
    cG (bB 1 16 (.slice (Heap.next h) 0 0 1) x12 (Heap.alloc (Heap.alloc h (.cells c11)) (.cells c13))) fun x15 h16=>
    cG (bB 1 16 x15 (.slice (Heap.next (Heap.alloc h (.cells c11))) 0 1 1) h16) fun x17 h18=>
    cG (bB 1 16 x17 x14 h18) fun x19 xL=>
    K (.ret x19) xL)=true:=by
  intro i hi he e e0 e1 e5;obtain ⟨x12,al7,r12⟩:=o.aaz kz hi;obtain ⟨x14,al8,r14⟩:=o.aaA kz hi;rw [show eN [] [] []=some [] from rfl];simp only [dr,e0,e1,e5,al7,al8];rw [show eN [(.str [])] [(0,1)] [.str s]=some [.str s] from rfl];simp only [dr];have jM:aV h (Heap.alloc (Heap.alloc h (.cells [])) (.cells [.str s])):=(aV.alloc _ _).trans (aV.alloc _ _)
  have g0:(Heap.alloc (Heap.alloc h (.cells [])) (.cells [.str s])).get h.next=sC []:=by
   rw [Heap.aN,Heap.aD,if_neg (by omega)];exact ak _ _
  have g1:(Heap.alloc (Heap.alloc h (.cells [])) (.cells [.str s])).get (h.next+1)=sC [.str s]:=ak _ _;have gn:(Heap.alloc (Heap.alloc h (.cells [])) (.cells [.str s])).next=h.next+2:=rfl
  rw [Heap.aD];generalize (Heap.alloc (Heap.alloc h (.cells [])) (.cells [.str s]))=H at jM g0 g1 gn ⊢;have o0:Own encS 1 h.next H (.slice h.next 0 0 1) ([]:List cc):=.row h.next [] (dK _) (by omega) g0
  have hm:cz=140737488355328:=rfl;have lt:(l.take i).length=i:=by rw [length_take,Nat.min_eq_left hi]
  have ld:(l.drop i).length=l.length-i:=length_drop;obtain ⟨a1,h1,p1,o1,f1,n1,_⟩:=o0.append kz tF (r12 H jM) (by omega) (bytes:=16) (by rw [hm,lt,length_nil];omega);simp only [p1,gO];have q1:h1.get (h.next+1)=sC [.str s]:=by rw [f1 _ (by omega) (by simp [bR])];exact g1
  have rs:Row encS 1 h1 (.slice (h.next+1) 0 1 1) [s]:=⟨rfl,by simp [gW,q1,encS]⟩
  have e1x:aV h h1:=⟨by have:=jM.next;omega,fun c hc=>by rw [f1 c (by omega) (by simp [bR];omega)];exact jM.get c hc⟩
  obtain ⟨a2,h2,p2,o2,f2,n2,_⟩:=o1.append kz tF rs (by omega) (bytes:=16) (by rw [hm,nil_append,lt];simp;omega);simp only [p2,gO];have e2x:aV h h2:=⟨by have:=e1x.next;omega,fun c hc=>by rw [f2 c (by have:=e1x.next;omega) (fun hb=>by have:=o1.ge hb;omega)];exact e1x.get c hc⟩
  obtain ⟨a3,h3,p3,o3,f3,n3,_⟩:=o2.append kz tF (r14 h2 e2x) (by have:=e2x.next;omega) (bytes:=16) (by rw [hm,ld,nil_append,length_append,lt];simp;omega);simp only [p3,gO];have e3x:aV h h3:=⟨by have:=e2x.next;omega,fun c hc=>by rw [f3 c (by have:=e2x.next;omega) (fun hb=>by have:=o2.ge hb;omega)];exact e2x.get c hc⟩
  refine hK a3 h3 e3x ?_;rw [he];have:=o3.CL hk;rw [nil_append,append_assoc] at this;exact this
 have get:∀ (i:Nat) (x:cc),l[i]?=some x->∃ b,(∀ q:IntKind,jw 1 a (.int q (i:Int))=some (.ptr b (i*1)))/\au none (.ptr b (i*1)) h=some (.str x):=fun i x hx=>by
  obtain ⟨b,_,_,h3,_,h5⟩:=o.get kz hx;exact ⟨b,h3,by have:=h5 0 (by omega);rw [Nat.add_zero] at this;rw [this];rfl⟩
 refine aB 0 l.length (zero_le _) (fun i e h'=>h'=h/\e 0=a/\e 1 = .str s/\e 5=I6 (i:Int)/\gv l s=l.take i++gv (l.drop i) s) ⟨rfl,rfl,rfl,rfl,rfl⟩ ?_ ?_
 ·rintro i e h' _ hi ⟨rfl,e0,e1,e5,ht⟩ K' hn hx hr hp;obtain ⟨x,hv⟩:=dM hi;obtain ⟨b,g1,g2⟩:=get i x hv;rw [OH hv] at ht;rw [F.fP.aP];simp only [e0,e1,e5,o.len,aO,aU hi,g1,g2,aaB]
  cases hlt:strLt x s with
  |true=>
   rw [if_pos hlt] at ht;simp only [aL,aE hi hbig,dr];exact hn _ _ ⟨rfl,e0,e1,rfl,ht⟩
  |false=>
   rw [if_neg (by rw [hlt];decide)] at ht;simp only [aK];rw [hx,F.fP.aC];simp only [aO,reduceEqDiff,reduceIte,e0,e1,e5,o.len,aU hi,g1,g2,um];by_cases Yz:x=s
   ·rw [if_pos Yz] at ht;simp only [fh Yz,aL];exact hK _ _ (aV.refl _) (by rw [ht];exact o)
   ·rw [if_neg Yz] at ht;simp only [eR Yz,aK];have:=app i (Nat.le_of_lt hi) ht e e0 e1 e5;simp only [e0,e1,e5] at this;exact this
 ·rintro e h' ⟨rfl,e0,e1,e5,ht⟩ K' hx;rw [F.fP.aP];simp only [e0,e5,o.len,aO,aR];rw [hx,F.fP.aC];simp only [aO,reduceEqDiff,reduceIte,e0,e1,e5,o.len,aR];have:=app l.length (dK _) (by rw [ht,drop_of_length_le (dK _)];rfl) e e0 e1 e5;simp only [e0,e1,e5] at this;exact this
structure ni (es:List Entry) (ck:Nat):Prop where
 nodup:(es.map (·.2.2)).Nodup
 lt:∀ e ∈ es,e.2.2<ck
theorem ni.nil(ck:Nat):ni [] ck:=⟨nodup_nil,fun _ h=>by cases h⟩
theorem ni.push(b:ni es ck)(k v:AV):ni (es++[(k,v,ck)]) (ck+1):=by
 refine ⟨?_,fun e he=>?_⟩
 ·rw [map_append,nodup_append];refine ⟨b.nodup,by simp,fun a ha c hc=>?_⟩;rw [mem_map] at ha;obtain ⟨e,he,rfl⟩:=ha;have:=b.lt e he;simp at hc;omega
 ·rw [mem_append] at he;rcases he with he|he
  ·have:=b.lt e he;omega
  ·simp at he;rw [he];exact lt_succ_self _
theorem OI(es:List Entry)(i:Nat)(v:AV):(gX es i v).map (·.2.2)=es.map (·.2.2):=by
 unfold gX
 cases h:es[i]? with
 |none=>rfl
 |some e=>
  simp only [map_set];apply ext_getElem?;intro j;by_cases hj:i=j
  ·subst hj;have hi:=(lR.1 h).1;rw [getElem?_set_self (by simpa using hi),getElem?_map,h];rfl
  ·rw [getElem?_set_ne hj]
theorem ni.set(b:ni es ck)(i:Nat)(v:AV):ni (gX es i v) ck:=by
 refine ⟨by rw [OI];exact b.nodup,fun e he=>?_⟩;have:e.2.2 ∈ (gX es i v).map (·.2.2):=List.mem_map_of_mem he;rw [OI,mem_map] at this;obtain ⟨e',he',h⟩:=this;rw [<- h];exact b.lt e' he'
theorem AY{d:TypeDesc}{Cc:List Entry}{Mj:Nat}{k v:AV}(hb:h.get b=some (.map es ck))(hB:ni es ck)(hu:fX d (.map b) k v h=some h')(hg:h'.get b=some (.map Cc Mj)):ni Cc Mj:=by
 simp only [fX,hb] at hu;split at hu
 ·cases hu;rw [Heap.aG,if_pos rfl] at hg;cases hg;exact hB.set _ _
 ·cases hu;rw [Heap.aG,if_pos rfl] at hg;cases hg;exact hB.push k v
 ·cases hu
abbrev qN:=List (cc×AV)
def qN.find(m:qN)(k:cc):Option AV:=(List.find? (fun p=>k==p.1) m).map (·.2)
def qN.vS:qN->cc->AV->qN
 |[],k,v=>[(k,v)]
 |p :: m,k,v=>if k==p.1 then (p.1,v) :: m else p :: qN.vS m k v
def yJ:List Entry->qN->Prop
 |[],[]=>True
 |e :: es,p :: m=>e.1 = .str p.1/\e.2.1=p.2/\yJ es m
 |_,_=>False
theorem yJ.mO{k:cc}:∀ {es:List Entry} {m:qN} (i:Nat),yJ es m->∃ r,mO .string (.str k) es i=some r/\match r with
  |none=>m.find k=none
  |some (j,v)=>∃ n,j=i+n/\m.find k=some v/\∀ w,yJ (gX es n w) (m.vS k w)
 |[],[],i,_=>⟨none,rfl,rfl⟩
 |e :: es,p :: m,i,⟨h1,h2,h3⟩=>by
  obtain ⟨ek,ev,en⟩:=e;simp only at h1 h2;subst h1;subst h2;by_cases hk:k=p.1
  ·subst hk;refine ⟨some (i,p.2),by simp [Go.AM.mO,AI],0,rfl,by simp [qN.find],fun w=>?_⟩;simp [gX,yJ,qN.vS,h3]
  ·obtain ⟨r,hr,hm⟩:=yJ.mO (k:=k) (i+1) h3;have WH:(k==p.1)=false:=by simpa using hk
   refine ⟨r,by simp only [Go.AM.mO,AI,WH,hr],?_⟩
   cases r with
   |none=>simpa [qN.find,hk] using hm
   |some jv=>
    obtain ⟨n,a,b,e⟩:=hm;refine ⟨n+1,by omega,by simpa [qN.find,hk] using b,fun w=>?_⟩;have:=e w;simp only [gX,getElem?_cons_succ,qN.vS,WH] at this ⊢;split at this<;>simp_all [yJ]
theorem yJ.append{m:qN}(h:yJ es m){k:cc}(hk:m.find k=none)(v:AV)(n:Nat):yJ (es++[(.str k,v,n)]) (m.vS k v):=by
 induction es generalizing m with
 |nil=>cases m with
  |nil=>simp [yJ,qN.vS]
  |cons p m=>exact h.elim
 |cons e es ih=>cases m with
  |nil=>exact h.elim
  |cons p m=>
   obtain ⟨h1,h2,h3⟩:=h;have hne:k≠p.1:=fun e=>by subst e;simp [qN.find] at hk
   have hk':qN.find m k=none:=by simpa [qN.find,hne] using hk
   have:=ih h3 hk';simp only [cons_append,qN.vS];rw [if_neg (by simpa using hne)];exact ⟨h1,h2,this⟩
theorem yK(o:Own encS 1 k h a l){x:cc}(hx:l[i]?=some x) :
  ∃ b,b<h.next/\(∀ q:IntKind,jw 1 a (.int q (i:Int))=some (.ptr b (i*1)))/\au none (.ptr b (i*1)) h=some (.str x):=by
 obtain ⟨b,_,h2,h3,_,h5⟩:=o.get kz hx;exact ⟨b,h2,h3,by have:=h5 0 (by omega);rw [Nat.add_zero] at this;rw [this];rfl⟩
theorem yL{p:α->Bool}{l:List α}{a:α}(ha:l[i]?=some a)(ht:(l.take i).any p=false)(hp:p a=false):(l.take (i+1)).any p=false:=by
 rw [take_add_one,ha];simp [ht,hp]
theorem eu{k:Nat}{h:Heap}{a:AV}{l:List cc}{s:cc}(o:Own encS 1 k h a l)(hl:l.length<=cw){K:Out->Heap->Bool}(hK:K (.ret (.bool (l.any fun x=>x==s))) h=true):Sem TP 86 [a,.str s] h K:=by
 refine F.wP ?_;rw [F.ym];refine aB 0 l.length (zero_le _) (fun i e h'=>h'=h/\e 0=a/\e 1 = .str s/\e 5=I6 (i:Int)/\((l.take i).any fun x=>x==s)=false) ⟨rfl,rfl,rfl,rfl,rfl⟩ ?_ ?_
 ·rintro i e h' _ hi ⟨rfl,e0,e1,e5,ht⟩ K' hn hx hr hp;obtain ⟨x,hv⟩:=dM hi;obtain ⟨b,_,g1,g2⟩:=yK o hv;rw [F.eu.aP];simp only [e0,e1,e5,o.len,aO,aU hi,g1,g2]
  cases hq:x==s with
  |true=>
   simp only [aL];rw [hr,F.eu.bg];simp only [kC,reduceEqDiff,reduceIte];rw [List.any_eq_true.2 ⟨x,ij hv,hq⟩] at hK;exact hK
  |false=>
   simp only [aK,aE hi hl,dr];exact hn _ _ ⟨rfl,e0,e1,rfl,yL hv ht hq⟩
 ·rintro e h' ⟨rfl,e0,e1,e5,ht⟩ K' hx;rw [F.eu.aP];simp only [e0,e5,o.len,aO,aR];rw [hx,F.eu.aC];rw [jD (dK _)] at ht;rw [ht] at hK;exact hK
theorem Own.push{enc:α->List AV}{l:List α}(o:Own enc sz k h a l)(he:∀ x,(enc x).length=sz)(h1:∀ x,aW (enc x)=true)(hk:k<=h.next){bytes:Nat}(hroom:(l.length+1)*bytes<=cz)(v:α) :
  ∃ a' h',bB sz bytes a (.slice h.next 0 1 sz) (h.alloc (.cells (enc v)))=some (a',h')/\Own enc sz k h' a' (l++[v])/\(∀ c,c<h.next->bR a≠some c->h'.get c=h.get c)/\h.next<=h'.next/\(∀ h0,aV h0 h->h0.next<=k->aV h0 h')/\∀ c,bR a'=some c->h.next<=c:=by
 have g:=ak h (.cells (enc v));have hn:(h.alloc (.cells (enc v))).next=h.next+1:=Heap.aD h _
 have hx:aV h (h.alloc (.cells (enc v))):=aV.alloc _ _
 have r:Row enc sz (h.alloc (.cells (enc v))) (.slice h.next 0 1 sz) [v]:=by
  refine ⟨rfl,?_⟩;have hl:(enc v).length=sz:=he v;simp only [gW,g,if_true,length_singleton,Nat.one_mul,Nat.zero_add,hl,dK,drop_zero];rw [<- hl,take_length];simp
 obtain ⟨a',h',p,o',f,n,hf⟩:=(o.ext hx).append he h1 r (by omega) (bytes:=bytes) (by simpa using hroom);have f':∀ c,c<h.next->bR a≠some c->h'.get c=h.get c:=fun c hc hb=>by rw [f c (by omega) hb];exact hx.get c hc
 refine ⟨a',h',p,o',f',by omega,fun h0 e0 hk0=>⟨by have:=e0.next;omega,fun c hc=>?_⟩,fun c hc=>by have:=hf (by simp) c hc;omega⟩;rw [f' c (by have:=e0.next;omega) (fun hb=>by have:=o.ge hb;omega)];exact e0.get c hc
def rS(y:cc×Int):List AV:=[.str y.1,I6 y.2]
theorem tG(y:cc×Int):(rS y).length=2:=rfl
theorem W6(s:cc)(n:Int):iP [.str [],I6 0] [(0,1),(1,1)] [.str s,I6 n]=some (.agg (rS (s,n))):=rfl
theorem W7(y:cc×Int):eN [.str [],I6 0] [(0,2)] [.agg (rS y)]=some (rS y):=rfl
theorem Own.J7{enc:α->List AV}{l:List α}(o:Own enc sz k h a l)(hf:∀ v,∀ x ∈ enc v,Fz true h x x):∃ x:Sl α,x.l=l/\Fz true h a (dR enc sz x):=by
 cases o with
 |nil=>exact ⟨none,rfl,.de rfl⟩
 |row b l h1 h2 h3=>
  refine ⟨some l,rfl,.slice b 0 l.length sz _ _ h3 rfl fun i x y hx hy=>?_⟩;rw [hx] at hy;cases hy;have:=ij hx;rw [mem_flatMap] at this;obtain ⟨v,hv,Y0⟩:=this;exact hf v x Y0
theorem Own.mK{enc:α->List AV}{l:List α}(o:Own enc sz k h a l){d:Nat}(hd:d<k)(x:mI):Own enc sz k (h.set d x) a l:=by
 cases o with
 |nil=>exact .nil
 |row b _ w1 w2 w3=>exact .row b l w1 (by rw [Heap.aT];exact w2) (by rw [Heap.aG,if_neg (by omega)];exact w3)
theorem zP(m:gq)(k j:cc)(v:Int):(m.vS k v).find j=if j=k then some v else m.find j:=by
 induction m with
 |nil=>
  simp only [gq.vS,gq.find,find?_cons,find?_nil];by_cases h:j=k
  ·subst h;simp
  ·have:(j==k)=false:=by simpa using h
   rw [this,if_neg h]
 |cons p m ih=>
  simp only [gq.vS];by_cases hk:k=p.1
  ·rw [if_pos (by simpa using hk)];subst hk;simp only [gq.find,find?_cons];by_cases h:j=p.1
   ·subst h;simp
   ·have:(j==p.1)=false:=by simpa using h
    rw [this,if_neg h]
  ·rw [if_neg (by simpa using hk)];simp only [gq.find,find?_cons] at ih ⊢;by_cases h:j=p.1
   ·subst h;simp only [beq_self_eq_true,map_some];rw [if_neg (Ne.symm hk)]
   ·have:(j==p.1)=false:=by simpa using h
    rw [this];exact ih
theorem OJ(m:gq)(k:cc)(v:Int):(m.vS k v).map (·.1)=if k ∈ m.map (·.1) then m.map (·.1) else m.map (·.1)++[k]:=by
 induction m with
 |nil=>simp [gq.vS]
 |cons p m ih=>
  simp only [gq.vS];by_cases hk:k=p.1
  ·rw [if_pos (by simpa using hk)];subst hk;simp
  ·rw [if_neg (by simpa using hk),map_cons,ih];by_cases hm:k ∈ m.map (·.1)
   ·rw [if_pos hm,if_pos (by rw [map_cons];exact mem_cons_of_mem _ hm)];rfl
   ·rw [if_neg hm,if_neg (by rw [map_cons,mem_cons];exact fun h=>h.elim hk hm)];rfl
theorem KS(hm:(m.map (·.1)).Nodup)(k:cc)(v:Int):((m.vS k v).map (·.1)).Nodup:=by
 rw [OJ];split
 ·exact hm
 ·rename_i h;rw [nodup_append];exact ⟨hm,by simp,fun a ha b hb=>by simp at hb;subst hb;exact fun e=>h (e▸ha)⟩
theorem vk{k:cc}(h:m.find k=some v):(k,v) ∈ m:=by
 unfold gq.find at h;obtain ⟨p,hp,rfl⟩:=map_eq_some_iff.1 h;have h1:=mem_of_find?_eq_some hp;have h2:=find?_some hp;simp only [beq_iff_eq] at h2;subst h2;exact h1
theorem zQ(hm:(m.map (·.1)).Nodup){p:cc×Int}(hp:p ∈ m):m.find p.1=some p.2:=by
 induction m with
 |nil=>cases hp
 |cons q m ih=>
  rw [map_cons,nodup_cons] at hm;simp only [gq.find,find?_cons];rcases mem_cons.1 hp with rfl|hp
  ·simp
  ·have:(p.1==q.1)=false:=by
    simp only [beq_eq_false_iff_ne];exact fun e=>hm.1 (e▸List.mem_map_of_mem hp)
   rw [this];exact ih hm.2 hp
theorem nB.mem:∀ {es:List Entry} {m:gq},nB es m->∀ e ∈ es,∃ p ∈ m,e.1 = .str p.1/\e.2.1=I6 p.2
 |[],_,_,e,he=>by cases he
 |e0 :: es,[],h,_,_=>h.elim
 |e0 :: es,p :: m,⟨h1,h2,h3⟩,e,he=>by
  rcases mem_cons.1 he with rfl|he
  ·exact ⟨p,mem_cons_self,h1,h2⟩
  ·obtain ⟨q,hq,r⟩:=nB.mem h3 e he;exact ⟨q,mem_cons_of_mem _ hq,r⟩
theorem oM{z v:AV}(h1:v.dX = [v])(hv:aW [v]=true):∃ h',aS 1 (.ptr h.next 0) v (h.alloc (.cells [z]))=some h'/\h'.get h.next=sC [v]/\(∀ b,b≠h.next->h'.get b=h.get b)/\h'.next=h.next+1:=by
 refine ⟨_,by rw [cj (n:=1) (ak _ _) (by rw [h1];rfl) (by rw [h1];exact hv) (by simp),h1],?_,fun b hb=>?_,by rw [Heap.aT,Heap.aD]⟩
 ·rw [Heap.aG,if_pos rfl];rfl
 ·rw [Heap.aG,if_neg hb,Heap.aN,if_neg hb]
theorem wj{x s:cc}:∀ {l:List cc},x ∈ gv l s↔x ∈ l\/x=s
 |[]=>by simp [gv]
 |a :: l=>by
  rw [gv];split
  ·rw [mem_cons,wj (l:=l),mem_cons,_root_.or_assoc]
  ·split
   ·rename_i h;subst h;rw [mem_cons];exact ⟨fun h=>.inl h,fun h=>h.elim id .inl⟩
   ·rw [mem_cons];exact Or.comm
theorem Fz.RA{jm:Bool}{v r:AV}(hr:r.scalar=true)(hf:Fz jm h v r):v=r:=by
 cases hf<;>first|rfl|(simp [AV.scalar] at hr)
theorem Sem.OK{P:Program}{f:FuncId}{args AS:List AV}{r:AV}(hr:r.scalar=true)(hs:Sem P f AS Heap.empty (tV r))(hp:j8 true h args AS)(hK:K (.ret r) h=true):Sem P f args h K:=
 hs.Ut hp fun o h' ho=>by
  obtain ⟨v,rfl,hf⟩:=bO.1 ho;obtain rfl:=hf.RA hr;exact ⟨_,_,rfl,.scalar _ hr,hK⟩
theorem pT{jm:Bool}(hb:h.get b=sC (d.map iv)):Fz jm h (.slice b 0 d.length 1) (dH (some d)):=by
 refine .slice b 0 d.length 1 _ _ hb (by rw [wh]) fun i x y hx hy=>?_;rw [wh,hy] at hx;cases hx;rw [<- wh,getElem?_map] at hy;obtain ⟨v,hv,rfl⟩:=map_eq_some_iff.1 hy;exact .scalar _ rfl
theorem Own.lt{enc:α->List AV}{l:List α}(o:Own enc sz k h a l){c:Nat}(hc:bR a=some c):c<h.next:=by
 cases o with
 |nil=>cases hc
 |row b l h1 h2 h3=>cases hc;exact h2
theorem MF[BEq α][LawfulBEq α]{l m:List α}{a b:α}(ha:l[i]?=some a)(hb:m[i]?=some b):(l.drop i==m.drop i)=((a==b)&&(l.drop (i+1)==m.drop (i+1))):=by
 have h1:=(lR.1 ha).1;have h2:=(lR.1 hb).1;rw [drop_eq_getElem_cons h1,drop_eq_getElem_cons h2];rw [jQ h1] at ha;rw [jQ h2] at hb;cases ha;cases hb;rfl
theorem ew{x y:Sl Int}(hx:x.l.length<=cw){h:Heap}{K:Out->Heap->Bool}(hK:K (.ret (.bool (x.l==y.l))) h=true):Sem TP 20 [dH x,dH y] h K:=by
 refine F.Fx ?_;rw [F.Hz];simp only [aO,cy];by_cases hl:x.l.length=y.l.length
 ·simp only [fh (by omega:(x.l.length:Int)=(y.l.length:Int)),Bool.not_true,aK];refine aB 0 x.l.length (zero_le _) (fun i e h'=>h'=h/\e 0=dH x/\e 1=dH y/\e 5=I6 (i:Int)/\(x.l==y.l)=(x.l.drop i==y.l.drop i)) ⟨rfl,rfl,rfl,rfl,rfl⟩ ?_ ?_
  ·rintro i e h' _ hi ⟨rfl,e0,e1,e5,ht⟩ K' hn gl hr hp;have wO:i<y.l.length:=by omega
   have hv:x.l[i]?=some x.l[i]:=jQ hi;have hw:y.l[i]?=some y.l[i]:=jQ wO;rw [MF hv hw] at ht;generalize x.l[i]=a at hv ht;generalize y.l[i]=b at hw ht;rw [F.ew.aP];simp only [e0,e1,e5,aO,aU hi,aQ x hi,aQ y wO,gh hv,gh hw]
   cases hq:a==b with
   |false=>
    simp only [Bool.not_false,aL];rw [hr,F.ew.bg];simp only [kC,reduceEqDiff,reduceIte];rw [ht,hq] at hK;exact hK
   |true=>
    simp only [Bool.not_true,aK,aE hi hx,dr];exact hn _ _ ⟨rfl,e0,e1,rfl,by rw [ht,hq,Bool.true_and]⟩
  ·rintro e h' ⟨rfl,e0,e1,e5,ht⟩ K' gl;rw [F.ew.aP];simp only [e0,e5,aO,aR];rw [gl,F.ew.aC];rw [drop_of_length_le (dK _),drop_of_length_le (by omega)] at ht;rw [ht] at hK;exact hK
 ·simp only [eR (by omega:¬ (x.l.length:Int)=(y.l.length:Int)),Bool.not_false,aL]
  have:(x.l==y.l)=false:=by
   simp only [beq_eq_false_iff_ne];exact fun e=>hl (congrArg List.length e)
  rw [this] at hK;exact hK
theorem sJ:∀ a:cc,strLt a a=false
 |[]=>rfl
 |x :: a=>by
  have:=sJ a;unfold strLt at this ⊢;simp [Op.bytesLess,this]
theorem yM:∀ {a b c:cc},strLt a b=true->strLt b c=true->strLt a c=true
 |_,[],_,h,_=>by unfold strLt at h;simp [Op.bytesLess] at h
 |_,_ :: _,[],_,h=>by unfold strLt at h;simp [Op.bytesLess] at h
 |[],_ :: _,_ :: _,_,_=>rfl
 |x :: a,y :: b,z :: c,h1,h2=>by
  have ih:=@yM a b c;unfold strLt at h1 h2 ih ⊢;simp only [Op.bytesLess,or_eq_true,decide_eq_true_eq,and_eq_true,beq_iff_eq] at h1 h2 ⊢;rcases h1 with h1|⟨rfl,h1⟩<;>rcases h2 with h2|⟨rfl,h2⟩
  ·exact .inl (UInt8.lt_trans h1 h2)
  ·exact .inl h1
  ·exact .inl h2
  ·exact .inr ⟨rfl,ih h1 h2⟩
theorem DU:∀ {a b:cc},strLt a b=false->a≠b->strLt b a=true
 |[],[],_,h=>absurd rfl h
 |[],_ :: _,h,_=>by unfold strLt at h;simp [Op.bytesLess] at h
 |_ :: _,[],_,_=>rfl
 |x :: a,y :: b,h1,h2=>by
  have ih:=@DU a b;unfold strLt at h1 ih ⊢;simp only [Op.bytesLess,or_eq_false_iff,decide_eq_false_iff_not,and_eq_false_iff,beq_eq_false_iff_ne] at h1;simp only [Op.bytesLess,or_eq_true,decide_eq_true_eq,and_eq_true,beq_iff_eq];obtain ⟨h3,h4⟩:=h1;by_cases e:x=y
  ·subst e;rcases h4 with h4|h4
   ·exact absurd rfl h4
   ·exact .inr ⟨rfl,ih h4 (fun h=>h2 (by rw [h]))⟩
  ·refine .inl ?_;rcases UInt8.lt_or_lt_of_ne e with h|h
   ·exact absurd h h3
   ·exact h
theorem ad2:∀ {a b:cc},leB a b=true->a≠b->strLt a b=true:=fun {a b} h hne=>by
 cases hs:strLt a b with
 |true=>rfl
 |false=>
  exfalso
  have key:∀ {a b:cc},strLt b a=true->b<a:=by
   intro a
   induction a with
   |nil=>intro b h;unfold strLt at h;cases b<;>simp [Op.bytesLess] at h
   |cons x a ih=>
    intro b h
    cases b with
    |nil=>exact nil_lt_cons _ _
    |cons y b=>
     unfold strLt at h;simp only [Op.bytesLess,or_eq_true,decide_eq_true_eq,and_eq_true,beq_iff_eq] at h;rcases h with h|⟨rfl,h⟩
     ·exact cons_lt_cons_iff.2 (.inl h)
     ·exact cons_lt_cons_iff.2 (.inr ⟨rfl,ih h⟩)
  have h1:=key (DU hs hne);have h2:a<=b:=of_decide_eq_true h;exact absurd h1 (List.not_lt.2 h2)
def wT(l:List cc):Prop:=l.Pairwise fun a b=>strLt a b=true
theorem AZ:∀ {l m:List cc},wT l->wT m->(∀ x,x ∈ l↔x ∈ m)->l=m
 |[],[],_,_,_=>rfl
 |[],y :: m,_,_,h=>by have:=(h y).2 mem_cons_self;cases this
 |x :: l,[],_,_,h=>by have:=(h x).1 mem_cons_self;cases this
 |x :: l,y :: m,hl,hm,h=>by
  obtain ⟨l1,l2⟩:=pairwise_cons.1 hl;obtain ⟨m1,m2⟩:=pairwise_cons.1 hm
  have Tn:x=y:=by
   rcases mem_cons.1 ((h x).1 mem_cons_self) with e|e
   ·exact e
   ·rcases mem_cons.1 ((h y).2 mem_cons_self) with e'|e'
    ·exact e'.symm
    ·have:=yM (m1 x e) (l1 y e');rw [sJ] at this;cases this
  subst Tn;rw [AZ l2 m2 fun z=>?_];constructor
  ·intro hz;rcases mem_cons.1 ((h z).1 (mem_cons_of_mem _ hz)) with e|e
   ·subst e;have:=l1 z hz;rw [sJ] at this;cases this
   ·exact e
  ·intro hz;rcases mem_cons.1 ((h z).2 (mem_cons_of_mem _ hz)) with e|e
   ·subst e;have:=m1 z hz;rw [sJ] at this;cases this
   ·exact e
theorem A0:∀ {l:List cc},wT l->∀ s,wT (gv l s)
 |[],_,s=>pairwise_singleton _ _
 |x :: l,h,s=>by
  obtain ⟨h1,h2⟩:=pairwise_cons.1 h;rw [gv];split
  ·rename_i hx;refine pairwise_cons.2 ⟨fun y hy=>?_,A0 h2 s⟩;rcases wj.1 hy with hy|rfl
   ·exact h1 y hy
   ·exact hx
  ·rename_i hx;split
   ·exact h
   ·rename_i hne;have hsx:strLt s x=true:=DU (by simpa using hx) hne;refine pairwise_cons.2 ⟨fun y hy=>?_,h⟩;rcases mem_cons.1 hy with rfl|hy
    ·exact hsx
    ·exact yM hsx (h1 y hy)
theorem KT{ck:Nat}:∀ {es:List Entry},(∀ e ∈ es,(∃ s,e.1 = .str s/\s.length<=1000)/\e.2.2<ck)->(es.map keyBytes).Nodup->(es.map (·.2.2)).Nodup->vV ck es=true
 |[],_,_,_=>rfl
 |e :: es,h,h1,h2=>by
  rw [map_cons,nodup_cons] at h1 h2;obtain ⟨⟨s,hs,hl⟩,hc⟩:=h e mem_cons_self;have ih:=KT (ck:=ck) (es:=es) (fun f hf=>h f (mem_cons_of_mem _ hf)) h1.2 h2.2;have hb:ble s.length 140737488351232=true:=ble_eq_true_of_le (by omega);have Jw:ble (e.2.2+1) ck=true:=ble_eq_true_of_le hc
  have jS:es.all (fun f=>!(keyBytes e==keyBytes f)&&!(Nat.beq e.2.2 f.2.2))=true:=by
   rw [List.all_eq_true];intro f hf
   have q1:(keyBytes e==keyBytes f)=false:=by
    simp only [beq_eq_false_iff_ne];exact fun q=>h1.1 (by rw [q];exact List.mem_map_of_mem hf)
   have q2:Nat.beq e.2.2 f.2.2=false:=by
    cases hq:Nat.beq e.2.2 f.2.2 with
    |false=>rfl
    |true=>exact absurd (by rw [eq_of_beq_eq_true hq];exact List.mem_map_of_mem hf) h2.1
   rw [q1,q2];rfl
  simp only [vV,hs,isStr,hb,Jw,jS,ih,Bool.and_self]
theorem keys_map{M:Nat}(hK:K (.ret (.func 106 [] [.ptr h.next 0])) (h.alloc (.box (.map M)))=true):Sem TP 62 [.map M] h K:=
 va.sem (f:=62) (g:=Th 106) rfl hK
theorem RB{M:Nat}(hb:h.get b=some (.box (.map M)))(hM:h.get M=some (.map es ck))(mP:vV ck es=true)(hlen:es.length<=1000000)
  (hK:∀ a h',aV h h'->Own encS 1 h.next h' a (u6 (es.map keyBytes))->K (.ret a) h'=true):Sem TP 61 [.func 106 [] [.ptr b 0]] h K:=by
 refine va.sem (f:=61) (g:=zJ 106) rfl ?_;have hl:ble (es.length*16) 140737488355328=true:=ble_eq_true_of_le (by omega)
 have h2:zJ 106 [.func 106 [] [.ptr b 0]] h K=true:=by
  simp only [zJ,hb,hM,mP,hl,Bool.true_and];rw [show Nat.beq 106 106=true from rfl,Bool.true_and];generalize u6 (es.map keyBytes)=ns at hK ⊢
  cases ns with
  |nil=>exact hK _ _ (aV.refl _) .nil
  |cons k ks=>
   have e:(k :: ks).map AV.str=(k :: ks).flatMap encS:=by
    generalize (k :: ks)=l
    induction l with
    |nil=>rfl
    |cons x l ih=>rw [map_cons,flatMap_cons,ih];rfl
   refine hK _ _ (aV.alloc _ _) ?_;rw [e];exact .row _ (k :: ks) (dK _) (lt_succ_self _) (ak _ _)
 exact h2
theorem MG(hn:l.Nodup):wT (u6 l)/\∀ x,x ∈ u6 l↔x ∈ l:=by
 refine ⟨?_,fun x=>(tu l).mem_iff⟩;have h1:=vW l;have h2:(u6 l).Nodup:=(tu l).nodup_iff.2 hn;unfold wT;unfold List.Nodup at h2;exact (h1.and h2).imp fun {a b} h=>ad2 h.1 h.2
theorem yN(hb:h.get b=some (.map es ck))(hm:nB es m)(k:cc) :
  eO .string (I6 0) false (.map b) (.str k) h=some (I6 ((m.find k).getD 0)):=by
 obtain ⟨r,hr,zI⟩:=nB.mO (k:=k) 0 hm;simp only [eO,ry,hb,uU,uT,if_true,hr]
 cases r with
 |none=>simp at zI;simp [zI]
 |some jv=>
  obtain ⟨n,q,_,b,c,_⟩:=zI;obtain ⟨j,v⟩:=jv;simp only at c;subst c;simp [b]
theorem To:∀ {es:List Entry} {m:gq},nB es m->es.map keyBytes=m.map (·.1)
 |[],[],_=>rfl
 |e :: es,p :: m,⟨h1,_,h3⟩=>by
  obtain ⟨ek,ev⟩:=e;simp only at h1;subst h1;rw [map_cons,map_cons,To h3];rfl
end
end Go.AM
namespace Go.AM
open List Nat Bool Option
open Go Go.Proofs
noncomputable section
variable {K:Out->Heap->Bool} {h h':Heap} {n k M V b base S B sz ck j N0 N1 N4 P3 P5 P6 PL:Nat} {hs ks o:List cc} {D:cc->Option (Nat×List Bool)} {lv:fJ.Lv} {vs:List Int} {es:List Entry} {s nm:cc} {i0 v:Int} {g ng:FuncId} {α σ:Type} {p:Nat×List Bool} {a cW lW:AV} {defs:List uV} {x xs:Sl cc} {d:List Bool} {ga gb na nb:List AV}
theorem wk{enc:α->List AV}(he:∀ a,(enc a).length=sz)(x:Sl α)(h:Heap):Row enc sz h (dR enc sz x) x.l:=by
 cases x with
 |none=>exact ⟨rfl,rfl⟩
 |some l=>
  refine ⟨rfl,?_⟩;have hl:(l.flatMap enc).length=l.length*sz:=eS he l;simp only [dR,gW,Sl.Dt,Nat.zero_add,hl,dK,decide_true,Bool.and_self,if_true,drop_zero];rw [<- hl,take_length]
structure fT where
 kind:Int
 neg:Bool
 name:cc
 args:Sl cc
structure aI where
 name:cc
 args:Sl cc
 body:Sl fT
def dZ(c:fT):List AV:=[I6 c.kind,.bool c.neg,.str c.name,iz c.args]
abbrev uE(x:Sl fT):AV:=dR dZ 4 x
def lF(nm:cc)(xs:Sl cc):List AV:=[.str nm,iz xs]
def bY(r:aI):List AV:=[.str r.name,iz r.args,uE r.body]
abbrev gm(x:Sl aI):AV:=dR bY 3 x
theorem jO(c:fT):(dZ c).length=4:=rfl
theorem fo(r:aI):(bY r).length=3:=rfl
theorem BA(c:fT):AV.cP (dZ c)=true:=by simp [dZ,AV.cP,AV.pure,br jc]
theorem fN(r:aI):AV.cP (bY r)=true:=by simp [bY,AV.cP,AV.pure,br jc,br BA]
theorem DV(nm:cc)(xs:Sl cc):aW (lF nm xs)=true:=by
 unfold lF;simp only [aW,fS,Bool.and_true];rfl
theorem jP(c:fT):aW (dZ c)=true:=by
 unfold dZ;simp only [aW,fS,Bool.and_true];rfl
theorem kr(r:aI):aW (bY r)=true:=by
 unfold bY;simp only [aW,fS,Bool.and_true];rfl
def fT.ok(c:fT):Prop:=c.name.length<=cw/\c.args.l.length<=cw/\∀ s ∈ c.args.l,s.length<=cw
def aI.ok(r:aI):Prop:=r.name.length<=cw/\r.args.l.length<=cw/\(∀ s ∈ r.args.l,s.length<=cw)/\r.body.l.length<=cw/\∀ c ∈ r.body.l,c.ok
theorem Tp(a b c d:AV):kQ (some 2) [a,b,c,d] 2=some (.agg [c,d]):=rfl
theorem Tq(a b c:AV):kQ (some 2) [a,b,c] 0=some (.agg [a,b]):=rfl
theorem MH(a b c d:AV):kQ (some 4) [a,b,c,d] 0=some (.agg [a,b,c,d]):=rfl
theorem si(a b c:AV):kQ (some 3) [a,b,c] 0=some (.agg [a,b,c]):=rfl
theorem jX{i:Nat}{v:cc}(hv:x.l[i]?=some v):au none (.dL (x.l.flatMap encS) (i*1)) h=some (.str v):=by
 rw [vO kz hv];rfl
theorem J8(hx:x.l.length<=cw){a b:List AV}{p:cc->Bool}(hp:∀ (v:cc) (K:Out->Heap->Bool),K (.ret (.bool (p v))) h=true->Sem TP g (a++([.str v]++b)) h K)
  (hK:∀ n:Int,decide (0<=n)=x.l.any p->K (.ret (I6 n)) h=true):Sem TP 184 [iz x,.func g a b] h K:=by
 refine F.nX ?_;rw [F.oy];simp only [aO];refine aB 0 x.l.length (zero_le _) (fun i e h'=>h'=h/\e 0=iz x/\e 1 = .func g a b/\e 7=I6 (x.l.length:Int)/\e 8=I6 (i:Int)/\(x.l.take i).any p=false) ⟨rfl,rfl,rfl,rfl,rfl,rfl⟩ ?_ ?_
 ·rintro i e h' _ hi ⟨rfl,e0,e1,e7,e8,ht⟩ K' hn gl hr xb;have hv:x.l[i]?=some x.l[i]:=jQ hi;rw [F.bE.aP];simp only [e0,e1,e7,e8,aO,aU hi,aQ x hi,jX hv,iy];refine af (hp _ _ ?_);simp only [aO]
  cases hq:p x.l[i] with
  |true=>
   simp only [aL];rw [hr,F.bE.bg];refine hK (i:Int) ?_;rw [fh (by omega:(0:Int)<=(i:Int))];exact (List.any_eq_true.2 ⟨_,ij hv,hq⟩).symm
  |false=>
   simp only [aK,aE hi hx,dr];exact hn _ _ ⟨rfl,e0,e1,e7,rfl,by rw [take_add_one,hv,any_append,ht];simp [hq]⟩
 ·rintro e h' ⟨rfl,e0,e1,e7,e8,ht⟩ K' gl;rw [F.bE.aP];simp only [e0,e1,e7,e8,aO,aR];rw [gl,F.bE.aC];rw [jD (dK _)] at ht;exact hK (-1) (by rw [ht];rfl)
theorem DW(hx:x.l.length<=cw){a b:List AV}{p:cc->Bool}(hp:∀ (v:cc) (K:Out->Heap->Bool),K (.ret (.bool (p v))) h=true->Sem TP g (a++([.str v]++b)) h K)
  (hK:K (.ret (.bool (x.l.any p))) h=true):Sem TP 167 [iz x,.func g a b] h K:=by
 refine F.mT ?_;rw [F.m7];refine af (J8 hx hp fun n hn=>?_);simp only [aO];rw [hn];exact hK
theorem MI(hK:K (.ret (.bool (!fG s))) h=true):Sem TP 168 [.str s] h K:=by
 refine F.DF ?_;rw [F.FD];refine af (eX ?_);simp only [aO];exact hK
theorem aaC(p:α->Bool)(l:List α):(!(l.any fun x=>!p x))=l.all p:=by
 induction l with
 |nil=>rfl
 |cons a l ih=>rw [any_cons,all_cons,<- ih];cases p a<;>simp
theorem aaD(p:α->Bool):∀ (l:List α) (h:l.length=2),l.all p=(p (l[0]'(by omega))&&p (l[1]'(by omega)))
 |[a,b],_=>by simp
def qB(nm:cc)(xs:List cc):Bool:=fG nm&&(decide (xs.length<=12)&&xs.all fG)
theorem Iq(hx:xs.l.length<=cw)(hK:K (.ret (.bool (qB nm xs.l))) h=true):Sem TP 138 [.agg [.str nm,iz xs]] h K:=by
 refine Sem.data (r:=.bool (qB nm xs.l)) ?_ (by simp [AV.cP,AV.pure,br jc]) hK;clear hK;refine F.HI ?_;rw [F.JG];have g0:(Heap.alloc Heap.empty (.cells (lF nm xs))).get 0=sC (lF nm xs):=ak _ _;have hb:eG (.agg [.str nm,iz xs])=some (lF nm xs):=cD (DV nm xs);simp only [hb,dr,aZ];generalize (Heap.alloc Heap.empty (.cells (lF nm xs)))=H at g0 ⊢;have fin:∀ b:Bool,b=qB nm xs.l->tV (.bool (qB nm xs.l)) (.ret (.bool b)) H=true:=fun b hb=>by rw [hb];exact eB rfl
 simp only [aO,aj g0,lF];refine af (eX ?_);simp only [aO]
 cases hn:fG nm with
 |false=>simp only [aK];exact fin _ (by simp [qB,hn])
 |true=>
  simp only [aL,aO,aj g0,lF];by_cases J9:xs.l.length<=12
  ·simp only [fh (by omega:(xs.l.length:Int)<=12),aL];refine af (DW hx (p:=fun s=>!fG s) (fun v K hK=>MI hK) ?_);simp only [aO];exact fin _ (by rw [aaC];simp [qB,hn,J9])
  ·simp only [eR (by omega:¬ (xs.l.length:Int)<=12),aK];exact fin _ (by simp [qB,J9])
def jy(c:fT):Bool:=if c.kind=0 then qB c.name c.args.l else if c.kind=1\/c.kind=2 then decide (c.name = [])&&(decide (c.args.l.length=2)&&c.args.l.all fG) else false
theorem iU{c:fT}(hc:c.ok){h:Heap}{K:Out->Heap->Bool}(hK:K (.ret (.bool (jy c))) h=true):Sem TP 140 [.agg [I6 c.kind,.bool c.neg,.str c.name,iz c.args]] h K:=by
 refine Sem.data (r:=.bool (jy c)) ?_ (by simp [AV.cP,AV.pure,br jc]) hK;clear hK;refine F.Ak ?_;rw [F.Bp];have g0:(Heap.alloc Heap.empty (.cells (dZ c))).get 0=sC (dZ c):=ak _ _;have hb:eG (.agg [I6 c.kind,.bool c.neg,.str c.name,iz c.args])=some (dZ c):=cD (jP c);simp only [hb,dr,aZ];generalize (Heap.alloc Heap.empty (.cells (dZ c)))=H at g0 ⊢;have fin:∀ b:Bool,b=jy c->tV (.bool (jy c)) (.ret (.bool b)) H=true:=fun b hb=>by rw [hb];exact eB rfl
 generalize tV (.bool (jy c))=R at fin ⊢;simp only [aO,aj g0,dZ,cy,Tp];by_cases k0:c.kind=0
 ·simp only [fh k0,aL];refine af (Iq hc.2.1 ?_);simp only [aO];exact fin _ (by simp [jy,k0])
 simp only [eR k0,aK]
 have J:∀ (e:Env) (b:Bool),e 1 = .ptr 0 0->e 10 = .bool b->(b=true↔(c.kind=1\/c.kind=2))->F.iU.J0 R (sM e 40 H)=true:=by
  intro e b e1 iJ hb;rw [F.iU.Cx];simp only [e1,iJ,aO,reduceAdd]
  cases b with
  |false=>
   simp only [aK];have:¬ (c.kind=1\/c.kind=2):=fun h=>by have:=hb.2 h;cases this
   exact fin _ (by simp [jy,k0,this])
  |true=>
   have hk:=hb.1 rfl;have Ql:jy c=(decide (c.name = [])&&(decide (c.args.l.length=2)&&c.args.l.all fG)):=by simp only [jy,if_neg k0,if_pos hk]
   rw [Ql] at fin;simp only [aL,aO,aj g0,dZ,um];by_cases hn:c.name = []
   ·simp only [fh hn,aL,cy];by_cases h2:c.args.l.length=2
    ·simp only [fh (by omega:(c.args.l.length:Int)=2),aL];have v0:c.args.l[0]?=some c.args.l[0]:=jQ (by omega);have v1:c.args.l[1]?=some c.args.l[1]:=jQ (by omega);have jS:c.args.l.all fG=(fG c.args.l[0]&&fG c.args.l[1]):=aaD fG _ h2;have i0:=aQ (enc:=encS) (sz:=1) (k:=.i64) c.args (i:=0) (by omega);have i1:=aQ (enc:=encS) (sz:=1) (k:=.i64) c.args (i:=1) (by omega);have l0:=fun h=>jX (x:=c.args) v0 (h:=h);have l1:=fun h=>jX (x:=c.args) v1 (h:=h);simp only [show ((0:Nat):Int)=0 from rfl,show ((1:Nat):Int)=1 from rfl] at i0 i1;simp only [i0,l0,aO];refine af (eX ?_);simp only [aO];rw [jS] at fin
     cases n0:fG c.args.l[0] with
     |false=>simp only [aK];exact fin _ (by simp [n0])
     |true=>
      simp only [aL,aO,aj g0,dZ,i1,l1];refine af (eX ?_);simp only [aO];exact fin _ (by simp [n0,hn,h2])
    ·simp only [eR (by omega:¬ (c.args.l.length:Int)=2),aK];exact fin _ (by simp [h2])
   ·simp only [eR hn,aK];exact fin _ (by simp [hn])
 by_cases k1:c.kind=1
 ·simp only [fh k1,aL];exact J _ true rfl rfl (by simp [k1])
 ·simp only [eR k1,aK];exact J _ (decide (c.kind=2)) rfl rfl (by simp [k1])
theorem UJ{l:List cc}(o:Own encS 1 k h a l)(hl:l.length<=cw)
  (hK:∀ n:Int,decide (0<=n)=(l.any fun x=>s==x)->K (.ret (I6 n)) h=true):Sem TP 145 [a,.str s] h K:=by
 refine F.kE ?_;rw [F.kS];simp only [o.len,aO];refine aB 0 l.length (zero_le _) (fun i e h'=>h'=h/\e 0=a/\e 1 = .str s/\e 7=I6 (l.length:Int)/\e 8=I6 (i:Int)/\((l.take i).any fun x=>s==x)=false) ⟨rfl,rfl,rfl,rfl,rfl,rfl⟩ ?_ ?_
 ·rintro i e h' _ hi ⟨rfl,e0,e1,e7,e8,ht⟩ K' hn gl hr xb;obtain ⟨x,hv⟩:=dM hi;obtain ⟨b,_,g1,g2⟩:=yK o hv;rw [F.bG.aP];simp only [e0,e1,e7,e8,aO,aU hi,g1,g2]
  cases hq:s==x with
  |true=>
   simp only [aL];rw [hr,F.bG.bg];refine hK (i:Int) ?_;rw [fh (by omega:(0:Int)<=(i:Int))];exact (List.any_eq_true.2 ⟨_,ij hv,hq⟩).symm
  |false=>
   simp only [aK,aE hi hl,dr];exact hn _ _ ⟨rfl,e0,e1,e7,rfl,yL hv ht hq⟩
 ·rintro e h' ⟨rfl,e0,e1,e7,e8,ht⟩ K' gl;rw [F.bG.aP];simp only [e0,e1,e7,e8,aO,aR];rw [gl,F.bG.aC];rw [jD (dK _)] at ht;exact hK (-1) (by rw [ht];rfl)
theorem MJ{l:List cc}(o:Own encS 1 k h a l)(hl:l.length<=cw)
  (hK:K (.ret (.bool (l.any fun x=>s==x))) h=true):Sem TP 143 [a,.str s] h K:=by
 refine F.oz ?_;rw [F.oL];refine af (UJ o hl fun n hn=>?_);simp only [aO];rw [hn];exact hK
def DX(o:List cc)(s:cc):List cc:=if (o.any fun x=>s==x)=true then o else o++[s]
def gi(o l:List cc):List cc:=l.foldl DX o
theorem EX{l:List cc}{i:Nat}(hs:l[i]?=some s):gi o (l.take (i+1))=DX (gi o (l.take i)) s:=by
 unfold gi;rw [take_add_one,hs];simp
theorem W8(o:List cc)(s:cc):(DX o s).length<=o.length+1:=by
 unfold DX;split<;>simp
theorem tI:∀ (l o:List cc),(gi o l).length<=o.length+l.length
 |[],o=>dK _
 |s :: l,o=>by
  have h1:=tI l (DX o s);have h2:=W8 o s;show (gi (DX o s) l).length<=_;rw [length_cons];omega
theorem yO{enc:α->List AV}{l:List α}(o:Own enc sz k h a l):a.dX = [a]/\aW [a]=true:=by
 cases o<;>exact ⟨rfl,rfl⟩
theorem UK{enc:α->List AV}{b:AV}{l:List α}(o:Own enc sz k h a l)(hV:h.get V=sC [b]):aS 1 (.ptr V 0) a h=some (h.set V (.cells [a])):=by
 obtain ⟨h1,h2⟩:=yO o;rw [cj (n:=1) hV (by rw [h1];rfl) (by rw [h1];exact h2) (by simp),h1];rfl
theorem acw(s:cc):eN [.str []] [(0,1)] [.str s]=some (encS s):=rfl
theorem EY{l:List cc}(hV:h.get V=sC [a])(hVk:V<k)(o:Own encS 1 k h a l)(hk:k<=h.next)(hlen:l.length+xs.l.length<=100000000)
  (hK:∀ a' h',h'.get V=sC [a']->Own encS 1 k h' a' (gi l xs.l)->(∀ c,c<k->c≠V->h'.get c=h.get c)->h.next<=h'.next->K (.ret (.tuple [])) h'=true):Sem TP 142 [iz xs,.ptr V 0] h K:=by
 refine F.xg ?_;rw [F.yo];simp only [aO]
 refine aB 0 xs.l.length (zero_le _) (fun i e h'=>∃ a',h'.get V=sC [a']/\Own encS 1 k h' a' (gi l (xs.l.take i))/\(∀ c,c<k->c≠V->h'.get c=h.get c)/\h.next<=h'.next /\
  e 1 = .ptr V 0/\e 5=iz xs/\e 6=I6 (xs.l.length:Int)/\e 7=I6 (i:Int)) ⟨a,hV,by simpa [gi] using o,fun _ _ _=>rfl,dK _,rfl,rfl,rfl,rfl⟩ ?_ ?_
 ·rintro i e h' _ hi ⟨a',gV,o',fr,vE,e1,e5,e6,e7⟩ K' hn hx hr hp;obtain ⟨s,hv⟩:=dM hi
  have hlb:(gi l (xs.l.take i)).length<=100000000:=by
   have h1:=tI (xs.l.take i) l;have h2:=length_take_le i xs.l;omega
  rw [F.eP.aP];simp only [e1,e5,e6,e7,aO,aU hi,aQ xs hi,jX hv,aj gV];refine af (MJ o' (by unfold cw;omega) ?_);simp only [aO];have gw:=EX (o:=l) hv;unfold DX at gw
  cases hq:(gi l (xs.l.take i)).any fun x=>s==x with
  |true=>
   rw [hq,if_pos rfl] at gw;simp only [Bool.not_true,aK,aE hi (show xs.l.length<=cw by unfold cw;omega),dr];exact hn _ _ ⟨a',gV,by rw [gw];exact o',fr,vE,e1,e5,e6,rfl⟩
  |false=>
   rw [hq,if_neg (by simp)] at gw;obtain ⟨a2,h2,p1,p2,p3,p4,p5,p6⟩:=o'.push kz tF (by omega) (bytes:=16) (by unfold cz;omega) s
   have gV2:h2.get V=sC [a']:=by
    rw [p3 V (by omega) (fun hb=>by have:=o'.ge hb;omega)];exact gV
   have jL:=UK p2 gV2;simp only [Bool.not_false,aL,aj gV,aO,acw,p1,jL,aE hi (show xs.l.length<=cw by unfold cw;omega)];refine hn _ _ ⟨a2,by rw [Heap.aG,if_pos rfl],by rw [gw];exact p2.mK hVk _,fun c hc hcV=>?_,by rw [Heap.aT];omega,e1,e5,e6,rfl⟩;rw [Heap.aG,if_neg hcV,p3 c (by omega) (fun hb=>by have:=o'.ge hb;omega),fr c hc hcV]
 ·rintro e h' ⟨a',gV,o',fr,vE,e1,e5,e6,e7⟩ K' hx;rw [F.eP.aP];simp only [e6,e7,aO,aR];rw [hx,F.eP.aC];rw [jD (dK _)] at o';exact hK a' h' gV o' fr vE
def nj(o:List cc)(cs:List fT):List cc:=cs.foldl (fun o c=>gi o c.args.l) o
def varsOf(r:aI):List cc:=nj (gi [] r.args.l) r.body.l
def aI.k8(r:aI):Prop:=r.args.l.length<=1500/\r.body.l.length<=1500/\∀ c ∈ r.body.l,c.args.l.length<=1500
theorem Ka{cs:List fT}{i:Nat}{c:fT}(hc:cs[i]?=some c):nj o (cs.take (i+1))=gi (nj o (cs.take i)) c.args.l:=by
 unfold nj;rw [take_add_one,hc];simp
theorem CM:∀ (cs:List fT) (o:List cc),(∀ c ∈ cs,c.args.l.length<=1500)->(nj o cs).length<=o.length+cs.length*1500
 |[],o,_=>by simp [nj]
 |c :: cs,o,h=>by
  have h1:=CM cs (gi o c.args.l) fun d hd=>h d (mem_cons_of_mem _ hd);have h2:=tI c.args.l o;have h3:=h c mem_cons_self;show (nj (gi o c.args.l) cs).length<=_;rw [length_cons];omega
theorem OL{r:aI}(hf:r.k8)(i:Nat):(nj (gi [] r.args.l) (r.body.l.take i)).length<=3000000:=by
 have h1:=CM (r.body.l.take i) (gi [] r.args.l) fun c hc=>hf.2.2 c (mem_of_mem_take hc);have h2:=tI r.args.l [];have h3:=length_take_le i r.body.l;have h4:=length_take_le' i r.body.l;have:=hf.1;have:=hf.2.1;simp only [length_nil] at h2;omega
theorem dW{r:aI}(hf:r.k8){h:Heap}{K:Out->Heap->Bool}(hK:∀ x:Sl cc,x.l=varsOf r->K (.ret (iz x)) h=true) :
  Sem TP 100 [.agg [.str r.name,iz r.args,uE r.body]] h K:=by
 have main:Sem TP 100 [.agg [.str r.name,iz r.args,uE r.body]] Heap.empty (fun o h'=>yes (∃ v,∃ x:Sl cc,o = .ret v/\x.l=varsOf r/\Fz true h' v (iz x))):=by
  refine F.Aj ?_;rw [F.Bo];have hb:eG (.agg [.str r.name,iz r.args,uE r.body])=some (bY r):=cD (kr r);simp only [hb,dr,aZ,Heap.aD];have g0:(Heap.alloc (Heap.alloc Heap.empty (.cells (bY r))) (.cells [.ai])).get 0=sC (bY r):=by simp [Heap.aN,aZ]
  have g1:(Heap.alloc (Heap.alloc Heap.empty (.cells (bY r))) (.cells [.ai])).get 1=sC [.ai]:=by simp [Heap.aN,aZ]
  have gn:(Heap.alloc (Heap.alloc Heap.empty (.cells (bY r))) (.cells [.ai])).next=2:=rfl
  generalize (Heap.alloc (Heap.alloc Heap.empty (.cells (bY r))) (.cells [.ai]))=H at g0 g1 gn ⊢;simp only [aO,aj g0,bY];refine af (EY g1 (by omega) (Own.nil (k:=2)) (by omega) (by have:=hf.1;simp only [length_nil];omega) fun a h1 q1 q2 q3 q4=>?_);have VT:h1.get 0=sC (bY r):=by rw [q3 0 (by omega) (by omega)];exact g0
  simp only [aO,aj VT,bY]
  refine aB 0 r.body.l.length (zero_le _) (fun i e h'=>∃ a',h'.get 1=sC [a']/\Own encS 1 2 h' a' (nj (gi [] r.args.l) (r.body.l.take i))/\2<=h'.next /\
   e 3 = .ptr 1 0/\e 4 = .func 142 [] [.ptr 1 0]/\e 14=uE r.body/\e 15=I6 (r.body.l.length:Int)/\e 16=I6 (i:Int)) ⟨a,q1,by simpa [nj] using q2,by omega,rfl,rfl,rfl,rfl,rfl⟩ ?_ ?_
  ·rintro i e h' _ hi ⟨a',gV,o',vE,e3,e4,qt,rD,UL⟩ K' hn hx hr hp;obtain ⟨c,hv⟩:=dM hi;have amc:=hf.2.2 c (ij hv);obtain ⟨H2,hs,k1,ko,kn⟩:=cA (h:=h') (zs:=[I6 0,bF,.str [],.ai]) (cs:=dZ c) (n:=4) rfl rfl (jP c);have x2:aV h' H2:=⟨by omega,fun b hb=>ko b (by omega)⟩
   have gV2:=x2.at gV (by omega);rw [F.dW.aP];simp only [e4,qt,rD,UL,aO,reduceAdd,aU hi,aQ r.body hi,dB jO hv,hs];simp only [aO,aj k1,dZ,iy,nil_append,cons_append];refine af (EY (xs:=c.args) gV2 (by omega) (o'.ext x2) (by omega) (by have:=OL hf i;omega) fun a3 h3 s1 s2 s3 s4=>?_);simp only [aO,aE hi (show r.body.l.length<=cw by have:=hf.2.1;unfold cw;omega)];refine hn _ _ ⟨a3,s1,by rw [Ka hv];exact s2,by omega,e3,e4,qt,rD,rfl⟩
  ·rintro e h' ⟨a',gV,o',vE,e3,e4,qt,rD,UL⟩ K' hx;rw [F.dW.aP];simp only [rD,UL,aO,reduceAdd,aR];rw [hx,F.dW.aC];simp only [e3,aO,reduceEqDiff,reduceIte,aj gV];rw [jD (dK _)] at o'
   obtain ⟨x,jM,fK⟩:=o'.J7 (fun v y hy=>by
    simp only [encS,mem_cons,not_mem_nil,_root_.or_false] at hy
    subst hy;exact .scalar _ rfl)
   exact bO.2 ⟨a',x,rfl,jM,fK⟩
 refine main.frozen (by have:=fN r;simpa [bY,AV.cP,AV.pure] using this) fun o h' ho=>?_;obtain ⟨v,x,rfl,hx,hfz⟩:=bO.1 ho;exact ⟨v,_,rfl,hfz,hK x hx⟩
theorem cM(b o:Nat):aJ (.ptr b o)=some (.ptr b o):=rfl
theorem OM{d:TypeDesc}{k:AV}:∀ {es:List Entry} {i j:Nat} {v:AV},mO d k es i=some (some (j,v))->∃ n e,j=i+n/\es[n]?=some e
 |[],i,j,v,h=>by simp [mO] at h
 |e :: es,i,j,v,h=>by
  simp only [mO] at h;split at h
  ·cases h;exact ⟨0,e,rfl,rfl⟩
  ·obtain ⟨n,f,h1,h2⟩:=OM h;exact ⟨n+1,f,by omega,by simpa using h2⟩
  ·cases h
theorem EZ:∀ {es:List Entry} {i j:Nat} {e:Entry},(es.map (·.2.2)).Nodup->es[i]?=some e->sX (e.2.2:Int) es j=some (j+i)
 |[],i,j,e,_,h=>by simp at h
 |f :: es,0,j,e,_,h=>by
  simp only [getElem?_cons_zero,Option.some.injEq] at h;subst h;simp [sX]
 |f :: es,i+1,j,e,hn,h=>by
  rw [map_cons,nodup_cons] at hn;rw [getElem?_cons_succ] at h
  have hne:¬ ((f.2.2:Int)=(e.2.2:Int)):=fun heq=>hn.1 (by
   have:f.2.2=e.2.2:=by omega
   rw [this];exact List.mem_map_of_mem (ij h))
  rw [sX,if_neg hne,EZ hn.2 h];congr 1;omega
theorem UM{m:gq}(hb:h.get b=some (.map es ck))(hm:nB es m)(hB:ni es ck){k:cc}{q:Int}(hk:m.find k=some q)(v:Int) :
  ∃ Cc born,oQ .string (I6 0) (.map b) (.str k) h=some (.tuple [I6 q,I6 born],h)/\lM (.map b) (I6 born) (I6 v) h=some (h.set b (.map Cc ck))/\nB Cc (m.vS k v)/\ni Cc ck:=by
 obtain ⟨r,hr,zI⟩:=nB.mO (k:=k) 0 hm
 cases r with
 |none=>simp only at zI;rw [hk] at zI;cases zI
 |some jv=>
  obtain ⟨n,q',hj,b',c,_,e⟩:=zI;obtain ⟨j,w⟩:=jv;simp only [Nat.zero_add] at hj c;subst hj;subst c;rw [hk] at b';cases b';obtain ⟨n,f,h1,h2⟩:=OM hr;rw [Nat.zero_add] at h1;subst h1;refine ⟨gX es j (I6 v),(f.2.2:Int),?_,?_,e v,hB.set _ _⟩
  ·simp only [oQ,hb,uU,uT,if_true,hr,LO,h2]
  ·have:=EZ (j:=0) hB.nodup h2;rw [Nat.zero_add] at this;simp only [lM,hb,this]
structure iu (hs:List cc) (h:Heap) (M:Nat) (ks:List cc) (lv:fJ.Lv):Prop where
 ex:∃ es ck m,h.get M=some (.map es ck)/\nB es m/\ni es ck/\m.map (·.1)=ks/\∀ x,m.find x=if x ∈ hs then some (lv x:Int) else none
theorem iu.gG(l:iu hs h M ks lv)(he:h'.get M=h.get M):iu hs h' M ks lv:=by
 obtain ⟨es,ck,m,h1,h2⟩:=l.ex;exact ⟨es,ck,m,by rw [he];exact h1,h2⟩
def ic(r:aI)(c:fT):fJ.Edge:=⟨c.name,if c.neg then 1 else 0,r.name⟩
def pU(hs:List cc)(r:aI)(c:fT):List fJ.Edge:=if c.kind=0/\c.name ∈ hs then [ic r c] else []
def rT(hs:List cc)(r:aI)(cs:List fT):List fJ.Edge:=cs.flatMap (pU hs r)
def mq(hs:List cc)(rs:List aI):List fJ.Edge:=rs.flatMap fun r=>rT hs r r.body.l
theorem E3{r:aI}{cs:List fT}{c:fT}(hc:cs[j]?=some c):rT hs r (cs.take (j+1))=rT hs r (cs.take j)++pU hs r c:=by
 unfold rT;rw [take_add_one,hc];simp
theorem Ir{rs:List aI}{i:Nat}{r:aI}(hr:rs[i]?=some r):mq hs (rs.take (i+1))=mq hs (rs.take i)++rT hs r r.body.l:=by
 unfold mq;rw [take_add_one,hr];simp
theorem iu.look(l:iu hs h M ks lv)(k:cc) :
  eO .string (I6 0) true (.map M) (.str k) h=some (.tuple [I6 (if k ∈ hs then (lv k:Int) else 0),.bool (decide (k ∈ hs))]):=by
 obtain ⟨es,ck,m,h1,h2,h3,h4,h5⟩:=l.ex;rw [vT h1 h2,h5];by_cases hk:k ∈ hs<;>simp [hk]
theorem iu.acy(l:iu hs h M ks lv)(k:cc) :
  eO .string (I6 0) false (.map M) (.str k) h=some (I6 (if k ∈ hs then (lv k:Int) else 0)):=by
 obtain ⟨es,ck,m,h1,h2,h3,h4,h5⟩:=l.ex;rw [yN h1 h2,h5];by_cases hk:k ∈ hs<;>simp [hk]
theorem iu.amd{e:fJ.Edge}(l:iu hs h M ks lv)(hh:e.h ∈ hs)(hlt:lv e.h<lv e.b+e.w) :
  ∃ born h',oQ .string (I6 0) (.map M) (.str e.h) h=some (.tuple [I6 (lv e.h:Int),I6 born],h)/\lM (.map M) (I6 born) (I6 ((lv e.b+e.w:Nat):Int)) h=some h' /\
   iu hs h' M ks (fJ.jH lv e)/\(∀ b,b≠M->h'.get b=h.get b)/\h'.next=h.next:=by
 obtain ⟨es,ck,m,h1,h2,h3,h4,h5⟩:=l.ex;have hf:m.find e.h=some (lv e.h:Int):=by rw [h5,if_pos hh]
 obtain ⟨Cc,born,q1,q2,q3,q4⟩:=UM h1 h2 h3 hf ((lv e.b+e.w:Nat):Int);refine ⟨born,_,q1,q2,⟨Cc,ck,_,by rw [Heap.aG,if_pos rfl],q3,q4,?_,fun x=>?_⟩,fun b hb=>by rw [Heap.aG,if_neg hb],Heap.aT _ _ _⟩
 ·rw [OJ,if_pos (mem_map.2 ⟨_,vk hf,rfl⟩)];exact h4
 ·rw [zP];unfold fJ.jH;rw [if_pos hlt];by_cases hx:x=e.h
  ·subst hx;rw [if_pos rfl,if_pos hh,if_pos rfl]
  ·rw [if_neg hx,if_neg hx,h5]
theorem RC{P:Nat}{A:AV}{rules:Sl aI}{N:Nat}(hP:h.get P=sC [gm rules,A,.map M])(hl:iu hs h M ks lv)(YH:P<h.next)(hMn:M<h.next)
  (hr:rules.l.length<=60) (hb:∀ r ∈ rules.l,r.body.l.length<=20/\r.name ∈ hs) (hN:∀ x,lv x<=N) (hNb:N<=1000000)
  (hK:∀ h',iu hs h' M ks (fJ.round (mq hs rules.l) lv)->(∀ b,b<h.next->b≠M->h'.get b=h.get b)->h.next<=h'.next->K (.ret (.bool (!decide (fJ.ef (mq hs rules.l) lv)))) h'=true):Sem TP 141 [.ptr P 0] h K:=by
 have hPM:P≠M:=fun e=>by
  obtain ⟨es,ck,m,h1,_⟩:=hl.ex;rw [e,h1] at hP;cases hP
 refine F.vY ?_;rw [F.xk];simp only [aO,cM,aj hP]
 refine aB 0 rules.l.length (zero_le _) (fun i e h'=>∃ cur ch,fJ.RS lv cur (mq hs (rules.l.take i)) ch/\iu hs h' M ks cur/\(∀ x,cur x<=N+i*20)/\(∀ b,b<h.next->b≠M->h'.get b=h.get b)/\h.next<=h'.next /\
  e 0 = .ptr P 0/\e 3 = .bool ch/\e 13=gm rules/\e 14=I6 (rules.l.length:Int)/\e 15=I6 (i:Int)) ⟨lv,false,fJ.RS.nil lv,hl,by simpa using hN,fun _ _ _=>rfl,dK _,rfl,rfl,rfl,rfl,rfl⟩ ?_ ?_
 ·rintro i e h' _ hi ⟨cur,ch,rs,la,bd,fr,vE,e0,e3,qC,qt,rD⟩ K' hn hx xM hp;obtain ⟨r,hv⟩:=dM hi;obtain ⟨aiw,hin⟩:=hb r (ij hv);obtain ⟨H,BB,g1,go,gn⟩:=cA (h:=h') (zs:=[.str [],.ai,.ai]) (cs:=bY r) (n:=3) rfl rfl (kr r);rw [F.bt.aP];simp only [qC,qt,rD,aO,aU hi,aQ rules hi,dB fo hv,BB];simp only [aO,aj g1,bY]
  refine aB 0 r.body.l.length (zero_le _) (fun j e h2=>∃ cur ch,fJ.RS lv cur (mq hs (rules.l.take i)++rT hs r (r.body.l.take j)) ch/\iu hs h2 M ks cur/\(∀ x,cur x<=N+i*20+j)/\(∀ b,b<h.next->b≠M->h2.get b=h.get b)/\h2.get h'.next=sC (bY r)/\h'.next<h2.next /\
   e 0 = .ptr P 0/\e 3 = .bool ch/\e 5 = .ptr h'.next 0/\e 13=gm rules/\e 14=I6 (rules.l.length:Int)/\e 15=I6 (i:Int)/\e 20=uE r.body/\e 21=I6 (r.body.l.length:Int)/\e 22=I6 (j:Int))
   ⟨cur,ch,by simpa [rT] using rs,la.gG (go M (by omega)),by simpa using bd,fun b hb1 hb2=>by rw [go b (by omega)];exact fr b hb1 hb2,g1,by omega,e0,e3,rfl,qC,qt,rD,rfl,rfl,rfl⟩ ?_ ?_
  ·rintro j e h2 _ hj ⟨cur,ch,rs,la,bd,fr,gR,qj,e0,e3,e5,qC,qt,rD,MK,Gx,Gw⟩ K2 W9 fK r7 Ay;obtain ⟨c,hc⟩:=dM hj;obtain ⟨H2,se,k1,ko,kn⟩:=cA (h:=h2) (zs:=[I6 0,bF,.str [],.ai]) (cs:=dZ c) (n:=4) rfl rfl (jP c);have UN:iu hs H2 M ks cur:=la.gG (ko M (by omega));have gP2:H2.get P=sC [gm rules,A,.map M]:=by rw [ko P (by omega),fr P YH hPM];exact hP
   have gR2:H2.get h'.next=sC (bY r):=by rw [ko _ (by omega)];exact gR
   have fr2:∀ b,b<h.next->b≠M->H2.get b=h.get b:=fun b hb1 hb2=>by rw [ko b (by omega)];exact fr b hb1 hb2
   have hbig:r.body.l.length<=cw:=by unfold cw;omega
   have jL:=E3 (hs:=hs) (r:=r) hc;rw [F.bt.cU];simp only [e0,MK,Gx,Gw,aO,aU hj,aQ r.body hj,dB jO hc,se];simp only [aO,aj k1,cM,aj gP2,dZ,UN.look,cy];by_cases k0:c.kind=0
   ·simp only [fh k0,Bool.not_true,aK];by_cases hm:c.name ∈ hs
    ·have VU:pU hs r c = [ic r c]:=(by unfold pU;rw [if_pos ⟨k0,hm⟩]);rw [VU] at jL;simp only [fh hm,Bool.not_true,aK,if_pos hm]
     have J:∀ e':Env,e' 0 = .ptr P 0->e' 3 = .bool ch->e' 5 = .ptr h'.next 0->e' 8=I6 ((cur c.name+(ic r c).w:Nat):Int)->e' 13=gm rules->e' 14=I6 (rules.l.length:Int)->e' 15=I6 (i:Int)->e' 20=uE r.body->e' 21=I6 (r.body.l.length:Int)->e' 22=I6 (j:Int) ->
       F.bt.J0 K2 (sM e' 71 H2)=true:=by
      intro e' e0 e3 e5 e8 qC qt rD MK Gx Gw;rw [F.bt.Cx];simp only [e0,e5,e8,aO,cM,aj gP2,aj gR2,bY,UN.acy,if_pos hin];by_cases hlt:cur r.name<cur c.name+(ic r c).w
      ·obtain ⟨born,h3,q1,q2,q3,q4,q5⟩:=UN.amd (e:=ic r c) hin hlt;have q1':oQ .string (I6 0) (.map M) (.str r.name) H2=some (.tuple [I6 (cur r.name:Int),I6 born],H2):=q1;have q2':lM (.map M) (I6 born) (I6 ((cur c.name+(ic r c).w:Nat):Int)) H2=some h3:=q2;simp only [aU hlt,aL,Gw,aO,q1',q2',aE hj hbig];refine W9 _ _ ⟨_,true,?_,q3,fun x=>?_,fun b hb1 hb2=>by rw [q4 b hb2];exact fr2 b hb1 hb2,?_,by omega,e0,rfl,e5,qC,qt,rD,MK,Gx,rfl⟩
       ·rw [jL,<- append_assoc];exact rs.up hlt
       ·have:=fJ.xQ (e:=ic r c) bd (by unfold ic;simp only;split<;>omega) x;omega
       ·rw [q4 _ (by omega)];exact gR2
      ·simp only [eR (by omega:¬ ((cur r.name:Int)<((cur c.name+(ic r c).w:Nat):Int))),aK,Gw,aE hj hbig,dr];exact W9 _ _ ⟨cur,ch,by rw [jL,<- append_assoc];exact rs.same hlt,UN,fun x=>by have:=bd x;omega,fr2,gR2,by omega,e0,e3,e5,qC,qt,rD,MK,Gx,rfl⟩
     cases hng:c.neg with
     |true=>
      have hw:(ic r c).w=1:=(by unfold ic;simp [hng]);have yP:=aE (i:=cur c.name) (n:=2000000) (by have:=bd c.name;omega) (by unfold cw;omega);simp only [aL,yP,dr];exact J _ e0 e3 e5 (by rw [hw];rfl) qC qt rD MK Gx Gw
     |false=>
      have hw:(ic r c).w=0:=(by unfold ic;simp [hng]);simp only [aK];exact J _ e0 e3 e5 (by rw [hw];rfl) qC qt rD MK Gx Gw
    ·have VU:pU hs r c = []:=(by unfold pU;rw [if_neg (fun h=>hm h.2)]);rw [VU,append_nil] at jL;simp only [eR hm,Bool.not_false,aL,aE hj hbig,dr];exact W9 _ _ ⟨cur,ch,by rw [jL];exact rs,UN,fun x=>by have:=bd x;omega,fr2,gR2,by omega,e0,e3,e5,qC,qt,rD,MK,Gx,rfl⟩
   ·have VU:pU hs r c = []:=(by unfold pU;rw [if_neg (fun h=>k0 h.1)]);rw [VU,append_nil] at jL;simp only [eR k0,Bool.not_false,aL,aE hj hbig,dr];exact W9 _ _ ⟨cur,ch,by rw [jL];exact rs,UN,fun x=>by have:=bd x;omega,fr2,gR2,by omega,e0,e3,e5,qC,qt,rD,MK,Gx,rfl⟩
  ·rintro e h2 ⟨cur,ch,rs,la,bd,fr,gR,qj,e0,e3,e5,qC,qt,rD,MK,Gx,Gw⟩ K2 fK;rw [F.bt.cU];simp only [Gx,Gw,aO,aR];rw [fK,F.bt.cm];simp only [rD,aO,reduceEqDiff,reduceIte,aE hi (show rules.l.length<=cw by unfold cw;omega)];rw [jD (dK _),<- Ir hv] at rs;exact hn _ _ ⟨cur,ch,rs,la,fun x=>by have:=bd x;omega,fr,by omega,e0,e3,qC,qt,rfl⟩
 ·rintro e h' ⟨cur,ch,rs,la,bd,fr,vE,e0,e3,qC,qt,rD⟩ K' hx;rw [F.bt.aP];simp only [qt,rD,aO,aR];rw [hx,F.bt.aC];rw [jD (dK _)] at rs;obtain ⟨d1,d2⟩:=rs.done;simp only [kC,reduceEqDiff,reduceIte,e3];rw [d2];rw [d1] at la;exact hK h' la fr vE
theorem aiz(x:Sl aI)(A M:Nat):iP [.ai,.mH,.mH] [(0,1),(1,1),(2,1)] [gm x,.map A,.map M]=some (.agg [gm x,.map A,.map M]):=by cases x<;>rfl
theorem aiA(x:Sl aI)(A M:Nat):eG (.agg [gm x,.map A,.map M])=some [gm x,.map A,.map M]:=cD (by simp only [aW,fS];rfl)
def Is(m:gq)(nm:cc)(n:Nat):Option gq:=match m.find nm with
 |none=>some (m.vS nm n)
 |some k=>if k=(n:Int) then some (m.vS nm n) else none
def sj:List fT->gq->Option gq
 |[],m=>some m
 |c :: cs,m=>bif jy c then (if c.kind=0 then (match Is m c.name c.args.l.length with|none=>none|some m'=>sj cs m') else sj cs m) else none
def dQ:List aI->gq->Option gq
 |[],m=>some m
 |r :: rs,m=>bif qB r.name r.args.l then (match Is m r.name r.args.l.length with
   |none=>none
   |some m1=>if 20<r.body.l.length then none else if 12<(varsOf r).length then none else match sj r.body.l m1 with
    |none=>none
    |some m2=>dQ rs m2) else none
theorem KU{l:List α}{i:Nat}{a:α}(h:l[i]?=some a):l.drop i=a :: l.drop (i+1):=by
 have hi:i<l.length:=(lR.1 h).1;rw [drop_eq_getElem_cons hi];rw [jQ hi] at h;cases h;rfl
theorem iu.add(l:iu hs h M ks (fun _=>0))(hn:ks.Nodup)(nm:cc) :
  ∃ h' ks',fX .string (.map M) (.str nm) (I6 0) h=some h'/\iu (hs++[nm]) h' M ks' (fun _=>0)/\ks'.Nodup/\(∀ b,b≠M->h'.get b=h.get b)/\h'.next=h.next:=by
 obtain ⟨es,ck,m,h1,h2,h3,h4,h5⟩:=l.ex;obtain ⟨Cc,Mj,q1,q2⟩:=Hj h1 h2 nm 0;have g:(h.set M (.map Cc Mj)).get M=some (.map Cc Mj):=by rw [Heap.aG,if_pos rfl]
 refine ⟨_,(m.vS nm 0).map (·.1),q1,⟨Cc,Mj,_,g,q2,AY h1 h3 q1 g,rfl,fun x=>?_⟩,KS (by rw [h4];exact hn) nm 0,fun b hb=>by rw [Heap.aG,if_neg hb],Heap.aT _ _ _⟩;rw [zP,h5];by_cases hx:x=nm
 ·subst hx;simp
 ·simp [hx]
theorem iu.mem(l:iu hs h M ks lv)(x:cc):x ∈ ks↔x ∈ hs:=by
 obtain ⟨es,ck,m,h1,h2,h3,h4,h5⟩:=l.ex;rw [<- h4];constructor
 ·intro hx;obtain ⟨p,hp,rfl⟩:=mem_map.1 hx;have h6:=h5 p.1;by_cases hh:p.1 ∈ hs
  ·exact hh
  ·rw [if_neg hh] at h6;unfold gq.find at h6;rw [map_eq_none_iff,find?_eq_none] at h6;exact absurd (h6 p hp) (by simp)
 ·intro hx;have h6:=h5 x;rw [if_pos hx] at h6;exact mem_map.2 ⟨_,vk h6,rfl⟩
theorem iu.len(l:iu hs h M ks lv):bK .map (.map M) h=some (I6 (ks.length:Int)):=by
 obtain ⟨es,ck,m,h1,h2,h3,h4,h5⟩:=l.ex
 have:∀ (es:List Entry) (m:gq),nB es m->es.length=m.length:=by
  intro es
  induction es with
  |nil=>intro m hm;cases m with
   |nil=>rfl
   |cons p m=>exact hm.elim
  |cons e es ih=>intro m hm;cases m with
   |nil=>exact hm.elim
   |cons p m=>rw [length_cons,length_cons,ih m hm.2.2]
 have hl:=this es m h2;rw [<- h4,length_map,<- hl];simp [bK,h1]
theorem It:∀ {E:List fJ.Edge} {L:fJ.Lv} {N:Nat},(∀ e ∈ E,e.w<=1)->(∀ x,L x<=N)->∀ x,E.foldl fJ.jH L x<=N+E.length
 |[],L,N,_,h,x=>h x
 |e :: E,L,N,hw,h,x=>by
  have:=It (E:=E) (L:=fJ.jH L e) (N:=N+1) (fun f hf=>hw f (mem_cons_of_mem _ hf)) (fJ.xQ h (hw e mem_cons_self)) x;rw [length_cons];show E.foldl fJ.jH (fJ.jH L e) x<=_;omega
theorem Iu(hs:List cc)(r:aI):∀ cs:List fT,(rT hs r cs).length<=cs.length
 |[]=>dK _
 |c :: cs=>by
  have:=Iu hs r cs;have h1:(pU hs r c).length<=1:=by unfold pU;split<;>simp
  show (pU hs r c++rT hs r cs).length<=_;rw [length_append,length_cons];omega
theorem KV(hs:List cc):∀ rs:List aI,(∀ r ∈ rs,r.body.l.length<=20)->(mq hs rs).length<=rs.length*20
 |[],_=>dK _
 |r :: rs,h=>by
  have h1:=KV hs rs fun q hq=>h q (mem_cons_of_mem _ hq);have h2:=Iu hs r r.body.l;have h3:=h r mem_cons_self;show (rT hs r r.body.l++mq hs rs).length<=_;rw [length_append,length_cons];omega
theorem tJ{rs:List aI}{e:fJ.Edge}(he:e ∈ mq hs rs):∃ r ∈ rs,∃ c ∈ r.body.l,c.kind=0/\c.name ∈ hs/\e=ic r c:=by
 obtain ⟨r,hr,he⟩:=mem_flatMap.1 he;obtain ⟨c,hc,he⟩:=mem_flatMap.1 he;unfold pU at he;split at he
 ·rename_i h;rw [mem_singleton] at he;exact ⟨r,hr,c,hc,h.1,h.2,he⟩
 ·cases he
theorem ML(r:aI)(c:fT):(ic r c).w<=1:=by unfold ic;simp only;split<;>omega
theorem jY:∀ {rs:List aI} {m m':gq},dQ rs m=some m'->∀ r ∈ rs,qB r.name r.args.l=true/\r.body.l.length<=20/\(varsOf r).length<=12
 |[],_,_,_,r,hr=>by cases hr
 |r0 :: rs,m,m',h,r,hr=>by
  rw [dQ] at h
  cases ha:qB r0.name r0.args.l with
  |false=>rw [ha] at h;cases h
  |true=>
   rw [ha,cond_true] at h;split at h
   ·cases h
   ·split at h
    ·cases h
    ·split at h
     ·cases h
     ·split at h
      ·cases h
      ·rcases mem_cons.1 hr with rfl|hr
       ·exact ⟨ha,by omega,by omega⟩
       ·exact jY h r hr
def bC(rs:List aI):List cc:=rs.map (·.name)
def b6(rs:List aI):List fJ.Edge:=mq (bC rs) rs
structure nk (rs:List aI):Prop where
 k8:rs.length<=60
 go:∃ m,dQ rs []=some m
 lev:∃ k,fJ.ef (b6 rs) (fJ.iter (b6 rs) k)
theorem BC{rs:List aI}(uo:rs.length<=60)(xL:∀ r ∈ rs,r.body.l.length<=20):∀ k x,fJ.iter (b6 rs) k x<=k*1200
 |0,x=>zero_le _
 |k+1,x=>by
  have h1:=It (E:=b6 rs) (L:=fJ.iter (b6 rs) k) (N:=k*1200) (fun e he=>by obtain ⟨r,_,c,_,_,_,rfl⟩:=tJ he;exact ML r c) (BC uo xL k) x;have h2:(b6 rs).length<=rs.length*20:=KV _ rs xL;show (b6 rs).foldl fJ.jH (fJ.iter (b6 rs) k) x<=_;omega
def UO(m:gq)(nm:cc)(n:Nat):Bool:=match m.find nm with|none=>true|some k=>decide (k=(n:Int))
theorem KW(m:gq)(nm:cc)(n:Nat):Is m nm n=if UO m nm n=true then some (m.vS nm n) else none:=by
 unfold Is UO
 cases m.find nm with
 |none=>rfl
 |some k=>by_cases h:k=(n:Int)<;>simp [h]
theorem ON(n:Int):aW (encI n)=true:=rfl
theorem acz(n:Int):eN [I6 0] [(0,1)] [I6 n]=some (encI n):=rfl
theorem OO(h:fG s=true):s.length<=12:=by
 cases s with
 |nil=>exact zero_le _
 |cons c s=>
  simp only [fG,and_eq_true] at h;simp only [decide_eq_true_eq] at h;omega
theorem BD{xs:List cc}(h:qB nm xs=true):fG nm=true:=by
 unfold qB at h;rw [and_eq_true] at h;exact h.1
theorem iu.amg(l:iu hs h M ks lv)(Gy:ks.Nodup)(hlen:∀ s ∈ ks,s.length<=1000) :
  ∃ es ck,h.get M=some (.map es ck)/\vV ck es=true/\es.map keyBytes=ks/\es.length=ks.length:=by
 obtain ⟨es,ck,m,h1,h2,h3,h4,h5⟩:=l.ex;have hk:es.map keyBytes=ks:=by rw [To h2,h4]
 refine ⟨es,ck,h1,KT (fun e he=>?_) (by rw [hk];exact Gy) h3.nodup,hk,by rw [<- hk,length_map]⟩;obtain ⟨p,hp,q1,q2⟩:=h2.mem e he;exact ⟨⟨p.1,q1,hlen _ (by rw [<- h4];exact List.mem_map_of_mem hp)⟩,h3.lt e he⟩
def jl(t:Sl Int):List AV:=[dH t]
abbrev kM(x:Sl (Sl Int)):AV:=dR jl 1 x
theorem pV(t:Sl Int):(jl t).length=1:=rfl
theorem mG(t:Sl Int):AV.cP (jl t)=true:=by simp [jl,AV.cP,br iE]
theorem eY{l:List (Sl Int)}{i:Nat}{t:Sl Int}(ht:l[i]?=some t):au none (.dL (l.flatMap jl) (i*1)) h=some (dH t):=by
 rw [vO pV ht];rfl
section
variable {α:Type} {enc:α->List AV} {sz k:Nat}
end
abbrev PB:=Nat×List Int
def BE(p:PB):List AV:=[.slice p.1 0 p.2.length 1]
theorem Iv(p:PB):(BE p).length=1:=rfl
theorem Xa(p:PB):aW (BE p)=true:=rfl
structure uF (k:Nat) (h:Heap) (a:AV) (ps:List PB):Prop where
 own:Own BE 1 k h a ps
 cell:∀ p ∈ ps,k<=p.1/\p.1<h.next/\bR a≠some p.1/\h.get p.1=sC (p.2.map iv)
theorem uF.nil(k:Nat)(h:Heap):uF k h .ai []:=⟨.nil,fun p hp=>by cases hp⟩
theorem uF.ext{k:Nat}{h h':Heap}{a:AV}{ps:List PB}(n:uF k h a ps)(hx:aV h h'):uF k h' a ps:=
 ⟨n.own.ext hx,fun p hp=>by
  obtain ⟨h1,h2,h3,h4⟩:=n.cell p hp
  exact ⟨h1,Nat.lt_of_lt_of_le h2 hx.next,h3,by rw [hx.get _ h2];exact h4⟩⟩
theorem uF.Ad{jm:Bool}{ps:List PB}(n:uF k h a ps):∃ x:Sl (Sl Int),x.l.map Sl.l=ps.map (·.2)/\Fz jm h a (kM x):=by
 obtain ⟨o,hc⟩:=n
 cases o with
 |nil=>exact ⟨none,rfl,.scalar _ rfl⟩
 |row b ps h1 h2 h3=>
  refine ⟨some (ps.map fun p=>some p.2),by simp [List.map_map,Function.comp_def],?_⟩
  have e1:ps.flatMap BE=ps.map fun p=>AV.slice p.1 0 p.2.length 1:=by
   induction ps with
   |nil=>rfl
   |cons p ps ih=>rw [flatMap_cons,map_cons];exact congrArg _ (by
     clear ih h3 hc
     induction ps with
     |nil=>rfl
     |cons q ps ih=>rw [flatMap_cons,map_cons,ih];rfl)
  have e2:(ps.map fun p=>(some p.2:Sl Int)).flatMap jl=ps.map fun p=>dH (some p.2):=by
   clear h3 hc e1
   induction ps with
   |nil=>rfl
   |cons q ps ih=>rw [map_cons,flatMap_cons,map_cons,ih];rfl
  rw [e1] at h3
  have hf:Fz jm h (.slice b 0 ps.length 1) (.ax (ps.map fun p=>dH (some p.2)) 0 ps.length 1):=by
   refine .slice b 0 ps.length 1 _ _ h3 (by simp) fun i x y hx hy=>?_;rw [getElem?_map] at hx hy;obtain ⟨p,hp,rfl⟩:=map_eq_some_iff.1 hx;rw [hp] at hy;cases hy;exact pT (hc p (ij hp)).2.2.2
  have:kM (some (ps.map fun p=>(some p.2:Sl Int))) = .ax (ps.map fun p=>dH (some p.2)) 0 ps.length 1:=by
   simp only [dR,e2,length_map]
  rw [this];exact hf
theorem uF.push{k:Nat}{h:Heap}{a:AV}{ps:List PB}(n:uF k h a ps)(hk:k<=h.next)(hroom:(ps.length+1)*24<=cz)(p:PB)(p1:k<=p.1)(p2:p.1<h.next)(p3:bR a≠some p.1)(p4:h.get p.1=sC (p.2.map iv)) :
  ∃ a' h',bB 1 24 a (.slice h.next 0 1 1) (h.alloc (.cells (BE p)))=some (a',h')/\uF k h' a' (ps++[p])/\h.next<=h'.next/\(∀ c,c<h.next->bR a≠some c->h'.get c=h.get c)/\(∀ h0,aV h0 h->h0.next<=k->aV h0 h')/\∀ c,bR a'=some c->h.next<=c:=by
 obtain ⟨a',h',e1,o1,f1,n1,x1,b1⟩:=n.own.push Iv Xa hk hroom p;refine ⟨a',h',e1,⟨o1,fun q hq=>?_⟩,n1,f1,x1,b1⟩
 have rV:k<=q.1/\q.1<h.next/\bR a≠some q.1/\h.get q.1=sC (q.2.map iv):=by
  rcases mem_append.1 hq with hq|hq
  ·exact n.cell q hq
  ·rw [mem_singleton] at hq;subst hq;exact ⟨p1,p2,p3,p4⟩
 obtain ⟨q1,q2,q3,q4⟩:=rV;exact ⟨q1,by omega,fun hb=>by have:=b1 _ hb;omega,by rw [f1 _ q2 q3];exact q4⟩
theorem uF.at_{ps:List PB}(n:uF k h a ps){i:Nat}{p:PB}(hp:ps[i]?=some p) :
  ∃ b,(∀ q:IntKind,jw 1 a (.int q (i:Int))=some (.ptr b (i*1)))/\b<h.next/\(∀ h',aV h h'->au none (.ptr b (i*1)) h'=some (.slice p.1 0 p.2.length 1)):=by
 obtain ⟨b,b1,b2,b3,_,b5⟩:=n.own.get Iv hp;refine ⟨b,b3,b2,fun h' hx=>?_⟩;obtain ⟨b',_,_,c3,_,c5⟩:=(n.own.ext hx).get Iv hp;obtain rfl:b=b':=by have:=b3 .i64;rw [c3 .i64] at this;cases this;rfl
 have:=c5 0 (by omega);rw [Nat.add_zero] at this;rw [this];rfl
theorem Xb{l:List Int}(hb:h.get b=sC (l.map iv))(QO:b<h.next)(hl:l.length<=1000000)(x:Int) :
  ∃ b' h',bB 1 8 (.slice b 0 l.length 1) (.slice h.next 0 1 1) (h.alloc (.cells [I6 x]))=some (.slice b' 0 (l++[x]).length 1,h')/\h'.get b'=sC ((l++[x]).map iv)/\(∀ c,c<h.next->c≠b->h'.get c=h.get c)/\h.next<=b'/\b'<h'.next:=by
 have hm:cz=140737488355328:=rfl;have g:(h.alloc (.cells [I6 x])).get h.next=sC [I6 x]:=ak _ _
 have g2:(h.alloc (.cells [I6 x])).get b=sC (l.map iv):=by rw [Heap.aN,if_neg (by omega)];exact hb
 refine ⟨h.next+1,((h.alloc (.cells [I6 x])).set b .dead).alloc (.cells ((l++[x]).map iv)),?_,?_,fun c hc hcb=>?_,by omega,?_⟩
 ·have hf:gW 1 1 (.slice h.next 0 1 1) (h.alloc (.cells [I6 x]))=some [I6 x]:=by simp [gW,g]
  simp only [bB,lJ,hf,if_true,g2];rw [if_neg (by decide),if_pos (by simp [aW,AV.one];omega)];simp only [Heap.aD,drop_zero,Nat.mul_one];congr 2
  ·simp
  ·congr 2;rw [jD (by simp),map_append];rfl
 ·have:=ak ((h.alloc (.cells [I6 x])).set b .dead) (.cells ((l++[x]).map iv))
  rwa [Heap.aT,Heap.aD] at this
 ·rw [Heap.aN,Heap.aT,Heap.aD,if_neg (by omega),Heap.aG,if_neg hcb,Heap.aN,if_neg (by omega)]
 ·rw [Heap.aD,Heap.aT,Heap.aD];omega
theorem MM(h1:1<=n){i:Nat}(h:i<=k):n ^ i<=n ^ k:=Nat.pow_le_pow_right h1 h
theorem yQ(n:Nat):∀ (a b:List Int) (r:Nat),xK n (a++b) r=xK n b (xK n a r)
 |[],_,_=>rfl
 |x :: a,b,r=>yQ n a b _
theorem Tr{n:Nat}:∀ (l:List Int) (r i:Nat),jN n l=true->r<n ^ i->xK n l r<n ^ (i+l.length)
 |[],r,i,_,h=>h
 |x :: l,r,i,hb,h=>by
  simp only [jN,all_cons,and_eq_true,not_eq_true',decide_eq_false_iff_not] at hb
  have:r*n+x.toNat<n ^ (i+1):=by
   have h1:(r+1)*n<=n ^ i*n:=mul_le_mul_right n h;rw [succ_mul] at h1;rw [Nat.pow_succ];omega
  have:=Tr l (r*n+x.toNat) (i+1) (by rw [jN,List.all_eq_true];simpa using hb.2) this;rw [length_cons,show i+(l.length+1)=i+1+l.length by omega];exact this
theorem pW{l:List Int}(hb:jN n l=true):mg n l<n ^ l.length:=by
 have:=Tr l 0 0 hb (by simp);rw [Nat.zero_add] at this;exact this
theorem Xc{l:List Int}{i:Nat}(hv:l[i]?=some v):mg n (l.take (i+1))=mg n (l.take i)*n+v.toNat:=by
 rw [mg,take_add_one,hv,yQ];rfl
theorem aaE{n:Int}{l:List Int}(hb:jN n l=true)(i:Nat):jN n (l.take i)=true:=by
 unfold jN at hb ⊢;rw [List.all_eq_true] at hb ⊢;exact fun x hx=>hb x (mem_of_mem_take hx)
theorem Xd{n:Int}{l:List Int}(hb:jN n l=true){i:Nat}(hv:l[i]?=some v):0<=v/\v<n:=by
 unfold jN at hb;rw [List.all_eq_true] at hb;have:=hb v (ij hv);simp at this;omega
theorem rE{l:List Int}(hb:jN n l=true)(h1:1<=n)(hc:n ^ l.length<=4096){i:Nat}(hv:l[i]?=some v) :
  aF .mul (I6 ((mg n (l.take i):Nat):Int)) (I6 (n:Int))=some (I6 ((mg n (l.take i)*n:Nat):Int)) /\
  aF .add (I6 ((mg n (l.take i)*n:Nat):Int)) (I6 v)=some (I6 ((mg n (l.take (i+1)):Nat):Int)):=by
 have hi:i<l.length:=(lR.1 hv).1;have hlt:mg n (l.take (i+1))<n ^ (l.take (i+1)).length:=pW (aaE hb _);have hp:n ^ (l.take (i+1)).length<=4096:=Nat.le_trans (MM h1 (by rw [length_take];omega)) hc;obtain ⟨v0,v1⟩:=Xd hb hv;have he:mg n (l.take (i+1))=mg n (l.take i)*n+v.toNat:=Xc hv;have hm:((mg n (l.take i):Nat):Int)*(n:Int)=((mg n (l.take i)*n:Nat):Int):=by rw [Int.natCast_mul]
 have hs:((mg n (l.take i)*n:Nat):Int)+v=((mg n (l.take (i+1)):Nat):Int):=by omega
 exact ⟨by rw [zG (by rw [hm];omega) (by rw [hm];omega),hm],by rw [j9 (by rw [hs];omega) (by rw [hs];omega),hs]⟩
def dA:List Int->List Int->Bool
 |a :: l,b :: m=>if a=b then dA l m else decide (a<b)
 |_,_=>false
structure Rel where
 name:cc
 arity:Int
 aM:Sl (Sl Int)
structure ct where
 size:Int
 aA:Sl Rel
def Kb(p:Nat->Bool)(n:Nat):Bool:=(List.range n).all p
def oW(n k:Nat)(l:List (Sl Int))(i:Nat):Bool:=match l[i]? with
 |none=>true
 |some t=>decide (t.l.length=k)&&(jN n t.l&&(match i with
  |0=>true
  |j+1=>match l[j]? with
   |none=>true
   |some p=>dA p.l t.l))
def Az(n k:Nat)(l:List (Sl Int)):Bool:=Kb (oW n k l) l.length
def qu(n:Nat)(r:Rel):Bool:=fG r.name&&(decide (0<=r.arity)&&(decide (r.arity<=12)&&(decide (n ^ r.arity.toNat<=4096)&&Az n r.arity.toNat r.aM.l)))
def tK(s:ct)(i:Nat):Bool:=match s.aA.l[i]? with
 |none=>true
 |some r=>qu s.size.toNat r&&!((s.aA.l.take i).any fun q=>q.name==r.name)
def cY(s:ct):Bool:=decide (1<=s.size)&&(decide (s.size<=64)&&(decide (s.aA.l.length<=8)&&Kb (tK s) s.aA.l.length))
theorem OP{m:qN}(hb:h.get b=some (.map es ck))(hm:yJ es m)(z:AV)(k:cc) :
  eO .string z false (.map b) (.str k) h=some ((m.find k).getD z):=by
 obtain ⟨r,hr,zI⟩:=yJ.mO (k:=k) 0 hm;simp only [eO,ry,hb,uU,uT,if_true,hr]
 cases r with
 |none=>simp at zI;simp [zI]
 |some jv=>
  obtain ⟨n,_,b,_⟩:=zI;obtain ⟨j,v⟩:=jv;simp [b]
def bv(b:Bool):AV:=.bool b
theorem CN{i:Nat}{v:Bool}(hb:h.get b=sC (d.map bv))(hv:d[i]?=some v):au none (.ptr b i) h=some (.bool v):=by
 rw [aj hb,u0,getElem?_map,hv];rfl
theorem vm{i:Nat}{v:Bool}(hb:h.get b=sC (d.map bv))(hi:i<d.length):aS 1 (.ptr b i) (.bool v) h=some (h.set b (.cells ((d.set i v).map bv))):=by
 rw [cj (n:=1) hb rfl rfl (by simp;omega),map_set];rfl
theorem ad4(n:Nat):lU [bF] n=(replicate n false).map bv:=by
 induction n with
 |zero=>rfl
 |succ n ih=>rw [lU,ih];rfl
theorem CO(hn:n<=1000000)(h:Heap):gE 1 1 [bF] (I6 (n:Int)) (I6 (n:Int)) h=some (.slice h.next 0 n 1,h.alloc (.cells ((replicate n false).map bv))):=by
 have:((n:Int))<=140737488355328:=by omega
 simp [gE,Dd,this,ad4]
def kN(n:Nat):List (Sl Int)->List Bool->List Bool
 |[],d=>d
 |t :: ts,d=>kN n ts (d.set (mg n t.l) true)
theorem zR{l:List (Sl Int)}{i:Nat}{t:Sl Int}(ht:l[i]?=some t)(d:List Bool):kN n (l.drop i) d=kN n (l.drop (i+1)) (d.set (mg n t.l) true):=by
 have h1:=(lR.1 ht).1;rw [drop_eq_getElem_cons h1];rw [jQ h1] at ht;cases ht;rfl
theorem Iw(n:Nat):∀ (l:List (Sl Int)) (d:List Bool),(kN n l d).length=d.length
 |[],_=>rfl
 |t :: l,d=>by rw [kN,Iw n l];simp
def bitsOf(n k:Nat)(ts:List (Sl Int)):List Bool:=kN n ts (replicate (n ^ k) false)
theorem nq(n k:Nat)(ts:List (Sl Int)):(bitsOf n k ts).length=n ^ k:=by rw [bitsOf,Iw];simp
structure ei (D:cc->Option (Nat×List Bool)) (h:Heap) (B lo:Nat):Prop where
 ex:∃ es ck m,h.get B=some (.map es ck)/\yJ es m/\∀ nm,m.find nm=(D nm).map fun p=>.slice p.1 0 p.2.length 1
 nO:∀ nm p,D nm=some p->lo<=p.1/\p.1<h.next/\p.1≠B/\h.get p.1=sC (p.2.map bv)
 inj:∀ nm nm' p p',D nm=some p->D nm'=some p'->p.1=p'.1->nm=nm'
 lt:B<h.next
theorem ei.ext{lo:Nat}(b:ei D h B lo)(hx:aV h h'):ei D h' B lo:=by
 obtain ⟨es,ck,m,h1,h2,h3⟩:=b.ex;refine ⟨⟨es,ck,m,by rw [hx.get _ b.lt];exact h1,h2,h3⟩,fun nm p hp=>?_,b.inj,Nat.lt_of_lt_of_le b.lt hx.next⟩;obtain ⟨q1,q2,q3,q4⟩:=b.nO nm p hp;exact ⟨q1,Nat.lt_of_lt_of_le q2 hx.next,q3,by rw [hx.get _ q2];exact q4⟩
def bp(r:Rel):cc×Int×List (List Int):=(r.name,r.arity,r.aM.l.map Sl.l)
abbrev UP:=cc×Int×List (List Int)
def oN(d:UP):cc×Int:=(d.1,d.2.1)
def nG(D:cc->Option (Nat×List Bool))(nm:cc)(b:Nat)(d:List Bool):cc->Option (Nat×List Bool):=fun j=>if j=nm then some (b,d) else D j
theorem ei.set{D:cc->Option (Nat×List Bool)}{h:Heap}{B lo:Nat}(H:ei D h B lo){nm:cc}{p:Nat×List Bool}(hp:D nm=some p){d:List Bool}(hd:d.length=p.2.length):ei (nG D nm p.1 d) (h.set p.1 (.cells (d.map bv))) B lo:=by
 obtain ⟨es,ck,m,h1,h2,h3⟩:=H.ex;obtain ⟨k1,k2,k3,k4⟩:=H.nO nm p hp;refine ⟨⟨es,ck,m,by rw [Heap.aG,if_neg (Ne.symm k3)];exact h1,h2,fun j=>?_⟩,fun j q hq=>?_,fun j j' q q' hq rV hqq=>?_,by rw [Heap.aT];exact H.lt⟩
 ·rw [h3];unfold nG;by_cases e:j=nm
  ·subst e;rw [if_pos rfl,hp,map_some,map_some,hd]
  ·rw [if_neg e]
 ·unfold nG at hq;by_cases e:j=nm
  ·rw [if_pos e] at hq;cases hq;exact ⟨k1,by rw [Heap.aT];exact k2,k3,by rw [Heap.aG,if_pos rfl]⟩
  ·rw [if_neg e] at hq;obtain ⟨q1,q2,q3,q4⟩:=H.nO j q hq;exact ⟨q1,by rw [Heap.aT];exact q2,q3,by rw [Heap.aG,if_neg (fun e'=>e (H.inj j nm q p hq hp e'))];exact q4⟩
 ·unfold nG at hq rV;by_cases e:j=nm
  ·by_cases e':j'=nm
   ·rw [e,e']
   ·rw [if_pos e] at hq;rw [if_neg e'] at rV;cases hq;exact absurd (H.inj nm j' p q' hp rV hqq).symm e'
  ·by_cases e':j'=nm
   ·rw [if_neg e] at hq;rw [if_pos e'] at rV;cases rV;exact absurd (H.inj j nm q p hq hp hqq) e
   ·rw [if_neg e] at hq;rw [if_neg e'] at rV;exact H.inj j j' q q' hq rV hqq
theorem RE{R:AV}(hS:h.get S=sC [I6 (n:Int),R])(h1:1<=n){x:Sl Int}(hx:x.l.length<=12)(hc:n ^ x.l.length<=4096)(hb:jN n x.l=true)
  (hK:K (.ret (I6 ((mg n x.l:Nat):Int))) h=true):Sem TP 101 [.ptr S 0,dH x] h K:=by
 have hbig:x.l.length<=cw:=by unfold cw;omega
 refine F.rB ?_;rw [F.rW];simp only [aO];refine aB 0 x.l.length (zero_le _) (fun i e h'=>h'=h/\e 0 = .ptr S 0/\e 5=I6 ((mg n (x.l.take i):Nat):Int)/\e 8=dH x/\e 9=I6 (x.l.length:Int)/\e 10=I6 (i:Int)) ⟨rfl,rfl,rfl,rfl,rfl,rfl⟩ ?_ ?_
 ·rintro i e h' _ hi ⟨rfl,e0,e5,e8,e9,iJ⟩ K' hn gl hr hp;have hv:x.l[i]?=some x.l[i]:=jQ hi;rw [F.dV.aP];simp only [e0,e5,e8,e9,iJ,aO,cM,aj hS,aU hi,aQ x hi,gh hv,(rE hb h1 hc hv).1,(rE hb h1 hc hv).2,aE hi hbig];exact hn _ _ ⟨rfl,e0,rfl,e8,e9,rfl⟩
 ·rintro e h' ⟨rfl,e0,e5,e8,e9,iJ⟩ K' gl;rw [F.dV.aP];simp only [e9,iJ,aO,aR];rw [gl,F.dV.aC];simp only [e5,kC,reduceEqDiff,reduceIte];rw [jD (dK _)];exact hK
def bL(vs:List Int)(ps:List Nat):List Int:=ps.map fun p=>vs.getD p 0
theorem MN(hV:h.get V=sC (vs.map iv))(hVn:V<h.next)(hn:n=vs.length){ps:List Nat}{x:Sl Int}(hxp:x.l=ps.map fun (p:Nat)=>(p:Int))(uN:∀ p ∈ ps,p<vs.length)(sF:ps.length<=1000000)
  (hK:∀ h',h'.get h.next=sC ((bL vs ps).map iv)->aV h h'->h.next<h'.next->K (.ret (.slice h.next 0 ps.length 1)) h'=true):Sem TP 121 [.slice V 0 n 1,dH x] h K:=by
 subst hn;have hpb:ps.length<=cw:=by unfold cw;omega
 have hl:x.l.length=ps.length:=by rw [hxp];simp
 refine F.HM ?_;rw [F.JK];simp only [aO,hl,zO sF];have g0:=ak h (.cells ((replicate ps.length (0:Int)).map iv));have x0:=aV.alloc h (.cells ((replicate ps.length (0:Int)).map iv));have n0:(h.alloc (.cells ((replicate ps.length (0:Int)).map iv))).next=h.next+1:=Heap.aD _ _
 generalize h.alloc (.cells ((replicate ps.length (0:Int)).map iv))=H at g0 x0 n0 ⊢
 refine aB 0 ps.length (zero_le _) (fun i e h'=>∃ d:List Int,d.length=ps.length/\d.take i=(bL vs ps).take i/\h'.get h.next=sC (d.map iv)/\aV h h'/\h.next<h'.next /\
  e 0 = .slice V 0 vs.length 1/\e 5 = .slice h.next 0 ps.length 1/\e 11=dH x/\e 12=I6 (ps.length:Int)/\e 13=I6 (i:Int)) ⟨replicate ps.length 0,by simp,rfl,g0,x0,by omega,rfl,rfl,rfl,rfl,rfl⟩ ?_ ?_
 ·rintro i e h' _ hi ⟨d,dl,dt,q0,qx,qn,e0,e5,l9,uq,qC⟩ K' hn hx hr hp;obtain ⟨p,hv⟩:=dM hi;have Ku:x.l[i]?=some (p:Int):=by rw [hxp,getElem?_map,hv];rfl
  have hpv:=uN p (ij hv);have hw:vs[p]?=some (vs.getD p 0):=by rw [getD_eq_getElem?_getD,jQ hpv];rfl
  have qV:h'.get V=sC (vs.map iv):=by rw [qx.get V hVn];exact hV
  have i1:=aQ (enc:=encI) (sz:=1) (k:=.i64) x (i:=i) (by rw [hl];exact hi);have l1:=fun h=>gh (x:=x) Ku (h:=h);rw [F.kK.aP];simp only [e0,e5,l9,uq,qC,aO,aU hi,i1,l1,nh hpv,pR qV hw,nh hi,tE q0 (show i<d.length by omega),aE hi hpb];refine hn _ _ ⟨d.set i (vs.getD p 0),by simp [dl],?_,by rw [Heap.aG,if_pos rfl],qx.set (dK _) _,by rw [Heap.aT];exact qn,e0,e5,l9,uq,rfl⟩;have VV:(bL vs ps)[i]?=some (vs.getD p 0):=by unfold bL;rw [getElem?_map,hv];rfl
  rw [take_add_one,take_add_one,VV,take_set_of_le (dK _),dt,getElem?_set,if_pos rfl,if_pos (by omega)]
 ·rintro e h' ⟨d,dl,dt,q0,qx,qn,e0,e5,l9,uq,qC⟩ K' hx;rw [F.kK.aP];simp only [uq,qC,aO,aR];rw [hx,F.kK.aC];simp only [e5,kC,reduceEqDiff,reduceIte]
  have:d=bL vs ps:=by
   have h1:d.take ps.length=d:=jD (by omega);have h2:(bL vs ps).take ps.length=bL vs ps:=jD (by simp [bL]);rw [<- h1,dt,h2]
  rw [this] at q0;exact hK h' q0 qx qn
theorem E4{T:Nat}{R:AV}(hS:h.get S=sC [I6 (n:Int),R])(h1:1<=n){t:List Int}(hT:h.get T=sC (t.map iv))(hx:t.length<=12)(hc:n ^ t.length<=4096)(hb:jN n t=true)
  (hK:K (.ret (I6 ((mg n t:Nat):Int))) h=true):Sem TP 101 [.ptr S 0,.slice T 0 t.length 1] h K:=by
 have hbig:t.length<=cw:=by unfold cw;omega
 have hl:∀ h,bK .slice (.slice T 0 t.length 1) h=some (I6 (t.length:Int)):=fun _=>rfl;refine F.rB ?_;rw [F.rW];simp only [aO,hl];refine aB 0 t.length (zero_le _) (fun i e h'=>h'=h/\e 0 = .ptr S 0/\e 5=I6 ((mg n (t.take i):Nat):Int)/\e 8 = .slice T 0 t.length 1/\e 9=I6 (t.length:Int)/\e 10=I6 (i:Int)) ⟨rfl,rfl,rfl,rfl,rfl,rfl⟩ ?_ ?_
 ·rintro i e h' _ hi ⟨rfl,e0,e5,e8,e9,iJ⟩ K' hn gl hr hp;have hv:t[i]?=some t[i]:=jQ hi;rw [F.dV.aP];simp only [e0,e5,e8,e9,iJ,aO,cM,aj hS,aU hi,nh hi,pR hT hv,(rE hb h1 hc hv).1,(rE hb h1 hc hv).2,aE hi hbig];exact hn _ _ ⟨rfl,e0,rfl,e8,e9,rfl⟩
 ·rintro e h' ⟨rfl,e0,e5,e8,e9,iJ⟩ K' gl;rw [F.dV.aP];simp only [e9,iJ,aO,aR];rw [gl,F.dV.aC];simp only [e5,kC,reduceEqDiff,reduceIte];rw [jD (dK _)];exact hK
def ee(D:cc->Option (Nat×List Bool))(nm:cc)(r:Nat):Bool:=match D nm with|some p=>p.2.getD r false|none=>false
theorem ei.look{lo:Nat}(b:ei D h B lo)(hp:D nm=some p):eO .string .ai false (.map B) (.str nm) h=some (.slice p.1 0 p.2.length 1):=by
 obtain ⟨es,ck,m,h1,h2,h3⟩:=b.ex;rw [OP h1 h2,h3,hp];rfl
def fQ(n:Nat)(look:cc->Nat->Bool)(c:fT)(t:List Int):Bool:=
 (if c.kind=0 then look c.name (mg n t) else if c.kind=1 then decide (t.getD 0 0=t.getD 1 0) else decide (t.getD 0 0<t.getD 1 0)) != c.neg
theorem OQ{lo T:Nat}(hS:h.get S=sC [I6 (n:Int),.map B])(hD:ei D h B lo)(n1:1<=n){c:fT}{t:List Int}(hT:h.get T=sC (t.map iv))(hTn:T<h.next)(Xe:S<h.next)
  (ht:t.length<=12) (hb:jN n t=true) (hc:c.kind=0->n ^ t.length<=4096/\∃ p,D c.name=some p/\p.2.length=n ^ t.length) (hk:c.kind=1\/c.kind=2->t.length=2) (hkk:c.kind=0\/c.kind=1\/c.kind=2)
  (hK:∀ h',aV h h'->K (.ret (.bool (fQ n (ee D) c t))) h'=true):Sem TP 158 [.ptr S 0,.agg [I6 c.kind,.bool c.neg,.str c.name,iz c.args],.slice T 0 t.length 1] h K:=by
 refine F.xm ?_;rw [F.yp];have hbx:eG (.agg [I6 c.kind,.bool c.neg,.str c.name,iz c.args])=some (dZ c):=cD (jP c);have g0:(Heap.alloc h (.cells (dZ c))).get h.next=sC (dZ c):=ak _ _
 have gx:aV h (Heap.alloc h (.cells (dZ c))):=aV.alloc _ _;simp only [hbx,dr];generalize (Heap.alloc h (.cells (dZ c)))=H at g0 gx ⊢;have gS:H.get S=sC [I6 (n:Int),.map B]:=by rw [gx.get S Xe];exact hS
 have gT:H.get T=sC (t.map iv):=by rw [gx.get T hTn];exact hT
 have gD:=hD.ext gx;simp only [aO,aj g0,dZ,cy];by_cases k0:c.kind=0
 ·obtain ⟨wm,p,hp,sF⟩:=hc k0;have uQ:mg n t<p.2.length:=by rw [sF];exact pW hb
  have oO:p.2[mg n t]?=some (p.2.getD (mg n t) false):=by rw [getD_eq_getElem?_getD,jQ uQ];rfl
  obtain ⟨_,_,_,gp⟩:=gD.nO c.name p hp;simp only [fh k0,aL,aO,cM,aj gS,gD.look hp];refine af (E4 gS n1 gT ht wm hb ?_);simp only [aO,aj gS,aj g0,dZ,gD.look hp,AV.beq_refl,Bool.and_self,Bool.and_true,if_true,nh uQ,CN gp oO];have hv:fQ n (ee D) c t = !(p.2.getD (mg n t) false==c.neg):=by unfold fQ ee;rw [if_pos k0,hp];rfl
  rw [<- hv];exact hK H gx
 ·have h2:t.length=2:=hk (hkk.resolve_left k0);have v0:t[0]?=some (t.getD 0 0):=by rw [getD_eq_getElem?_getD,jQ (by omega:0<t.length)];rfl
  have v1:t[1]?=some (t.getD 1 0):=by rw [getD_eq_getElem?_getD,jQ (by omega:1<t.length)];rfl
  have i0:jw 1 (.slice T 0 t.length 1) (I6 0)=some (.ptr T 0):=nh (i:=0) (by omega);have i1:jw 1 (.slice T 0 t.length 1) (I6 1)=some (.ptr T 1):=nh (i:=1) (by omega);simp only [eR k0,aK];by_cases k1:c.kind=1
  ·simp only [fh k1,aL,i0,i1,pR gT v0,pR gT v1,aO,cy];have hv:fQ n (ee D) c t = !(decide (t.getD 0 0=t.getD 1 0)==c.neg):=by unfold fQ;rw [if_neg k0,if_pos k1];rfl
   rw [<- hv];exact hK H gx
  ·have k2:c.kind=2:=(hkk.resolve_left k0).resolve_left k1;simp only [eR k1,aK,fh k2,aL,i0,i1,pR gT v0,pR gT v1,aO];have hv:fQ n (ee D) c t = !(decide (t.getD 0 0<t.getD 1 0)==c.neg):=by unfold fQ;rw [if_neg k0,if_neg k1];rfl
   rw [<- hv];exact hK H gx
theorem UQ(hx:x.l.length<=cw)(hs:s ∈ x.l)(hK:K (.ret (I6 (x.l.idxOf s:Int))) h=true):Sem TP 145 [iz x,.str s] h K:=by
 refine F.kE ?_;rw [F.kS];simp only [aO];refine aB 0 x.l.length (zero_le _) (fun i e h'=>h'=h/\e 0=iz x/\e 1 = .str s/\e 7=I6 (x.l.length:Int)/\e 8=I6 (i:Int)/\i<=x.l.idxOf s) ⟨rfl,rfl,rfl,rfl,rfl,zero_le _⟩ ?_ ?_
 ·rintro i e h' _ hi ⟨rfl,e0,e1,e7,e8,ht⟩ K' hn gl hr xb;have hv:x.l[i]?=some x.l[i]:=jQ hi;have hlt:x.l.idxOf s<x.l.length:=idxOf_lt_length_of_mem hs;rw [F.bG.aP];simp only [e0,e1,e7,e8,aO,aU hi,aQ x hi,jX hv,um];by_cases hq:s=x.l[i]
  ·simp only [fh hq,aL];rw [hr,F.bG.bg]
   have:x.l.idxOf s=i:=by
    refine Nat.le_antisymm ?_ ht;refine Nat.le_of_not_lt fun h=>?_;have h2:=not_of_lt_findIdx (p:=fun a=>a==s) (xs:=x.l) (i:=i) h;simp [<- hq] at h2
   rw [this] at hK;exact hK
  ·simp only [eR hq,aK,aE hi hx,dr];refine hn _ _ ⟨rfl,e0,e1,e7,rfl,?_⟩;refine Nat.lt_of_le_of_ne ht fun h=>?_;have h3:x.l[x.l.idxOf s]=s:=getElem_idxOf hlt;exact hq (by rw [<- h3];congr 1;exact h.symm)
 ·rintro e h' ⟨rfl,e0,e1,e7,e8,ht⟩ K' gl;have hlt:x.l.idxOf s<x.l.length:=idxOf_lt_length_of_mem hs;omega
def placesOf(vars xs:List cc):List Nat:=xs.map fun s=>vars.idxOf s
theorem OR{vars:Sl cc}(hV:h.get V=sC [iz vars])(hVn:V<h.next)(jS:∀ s ∈ xs.l,s ∈ vars.l)(hx:xs.l.length<=1000000)(hv:vars.l.length<=cw)
  (hK:∀ a h',Own encI 1 h.next h' a ((placesOf vars.l xs.l).map fun (p:Nat)=>(p:Int))->aV h h'->K (.ret a) h'=true):Sem TP 144 [iz xs,.ptr V 0] h K:=by
 have Qp:xs.l.length<=cw:=by unfold cw;omega
 refine F.Br ?_;rw [F.Cz];simp only [aO];refine aB 0 xs.l.length (zero_le _) (fun i e h'=>∃ a,Own encI 1 h.next h' a ((placesOf vars.l (xs.l.take i)).map fun (p:Nat)=>(p:Int))/\aV h h'/\e 1 = .ptr V 0/\e 4=a/\e 7=iz xs/\e 8=I6 (xs.l.length:Int)/\e 9=I6 (i:Int)) ⟨.ai,.nil,aV.refl _,rfl,rfl,rfl,rfl,rfl⟩ ?_ ?_
 ·rintro i e h' _ hi ⟨a,o,qx,e1,e4,e7,e8,e9⟩ K' hn gl hr hp;obtain ⟨s,hs⟩:=dM hi;have qV:h'.get V=sC [iz vars]:=by rw [qx.get V hVn];exact hV
  rw [F.g8.aP];simp only [e1,e4,e7,e8,e9,aO,aU hi,aQ xs hi,jX hs,aj qV];refine af (UQ hv (jS s (ij hs)) ?_);obtain ⟨a2,h2,p1,p2,p3,p4,p5,p6⟩:=o.push pL ON qx.next (bytes:=8) (by have:=length_take_le i xs.l;simp only [placesOf,length_map];unfold cz;omega) (vars.l.idxOf s:Int)
  simp only [aO,acz,p1,aE hi Qp];refine hn _ _ ⟨a2,?_,p5 h qx (dK _),e1,rfl,e7,e8,rfl⟩;have:placesOf vars.l (xs.l.take (i+1))=placesOf vars.l (xs.l.take i)++[vars.l.idxOf s]:=by unfold placesOf;rw [take_add_one,hs];simp
  rw [this];simpa using p2
 ·rintro e h' ⟨a,o,qx,e1,e4,e7,e8,e9⟩ K' gl;rw [F.g8.aP];simp only [e8,e9,aO,aR];rw [gl,F.g8.aC];rw [jD (dK _)] at o;simp only [e4,kC,reduceEqDiff,reduceIte];exact hK a h' o qx
abbrev RW:=Option (Nat×List Int)
def RW.av:RW->AV
 |none=>.ai
 |some p=>.slice p.1 0 p.2.length 1
def RW.l:RW->List Int
 |none=>[]
 |some p=>p.2
def CP(w:RW):List AV:=[w.av]
theorem OS(w:RW):(CP w).length=1:=rfl
theorem Xf(w:RW):aW (CP w)=true:=by cases w<;>rfl
theorem aiB(w:RW):eN [.ai] [(0,1)] [w.av]=some (CP w):=by cases w<;>rfl
theorem Xg{l:List Int}(o:Own encI 1 k h a l):∃ w:RW,a=w.av/\w.l=l/\∀ p,w=some p->k<=p.1/\p.1<h.next/\h.get p.1=sC (p.2.map iv):=by
 cases o with
 |nil=>exact ⟨none,rfl,rfl,fun p hp=>by cases hp⟩
 |row b l h1 h2 h3=>exact ⟨some (b,l),rfl,rfl,fun p hp=>by cases hp;exact ⟨h1,h2,by rw [wh];exact h3⟩⟩
theorem row_one{enc:α->List AV}(he:∀ x,(enc x).length=sz){v:α}(hb:h.get b=sC (enc v)):Row enc sz h (.slice b 0 1 sz) [v]:=by
 refine ⟨rfl,?_⟩;have hl:(enc v).length=sz:=he v;simp only [gW,hb,if_true,length_singleton,Nat.one_mul,Nat.zero_add,hl,dK,drop_zero];rw [<- hl,take_length];simp
structure Np (k:Nat) (h:Heap) (cW lW:AV) (ws:List RW) (ls:List Int) (held:List RW):Prop where
 oc:Own CP 1 k h cW ws
 ol:Own encI 1 k h lW ls
 ok:∀ w ∈ held,∀ p,w=some p->k<=p.1/\p.1<h.next/\h.get p.1=sC (p.2.map iv)/\bR cW≠some p.1/\bR lW≠some p.1
 sep:∀ b,bR cW=some b->bR lW≠some b
theorem Np.ext{k:Nat}{h h':Heap}{cW lW:AV}{ws:List RW}{ls:List Int}{held:List RW}(t:Np k h cW lW ws ls held)(hx:aV h h'):Np k h' cW lW ws ls held:=
 ⟨t.oc.ext hx,t.ol.ext hx,fun w hw p hp=>by
  obtain ⟨q1,q2,q3,q4⟩:=t.ok w hw p hp
  exact ⟨q1,Nat.lt_of_lt_of_le q2 hx.next,by rw [hx.get _ q2];exact q3,q4⟩,t.sep⟩
theorem Np.hold{ws:List RW}{ls:List Int}{held:List RW}(t:Np k h cW lW ws ls held){w:RW}(hj:∀ p,w=some p->j<=p.1/\k<=p.1/\p.1<h.next/\h.get p.1=sC (p.2.map iv))
  (hc:∀ b,bR cW=some b->b<j) (hl:∀ b,bR lW=some b->b<j):Np k h cW lW ws ls (held++[w]):=
 ⟨t.oc,t.ol,fun v hv p hp=>by
  rcases mem_append.1 hv with hv|hv
  ·exact t.ok v hv p hp
  ·rw [mem_singleton] at hv;subst hv;obtain ⟨q1,q2,q3,q4⟩:=hj p hp
   exact ⟨q2,q3,q4,fun h=>by have:=hc _ h;omega,fun h=>by have:=hl _ h;omega⟩,t.sep⟩
theorem Np.low{ws:List RW}{ls:List Int}{held:List RW}(t:Np k h cW lW ws ls held){d:Nat}(hd:d<k)(x:mI):Np k (h.set d x) cW lW ws ls held:=
 ⟨t.oc.mK hd x,t.ol.mK hd x,fun w hw p hp=>by
  obtain ⟨q1,q2,q3,q4⟩:=t.ok w hw p hp
  exact ⟨q1,by rw [Heap.aT];exact q2,by rw [Heap.aG,if_neg (by omega)];exact q3,q4⟩,t.sep⟩
theorem Np.push{ws:List RW}{ls:List Int}{held:List RW}(t:Np k h cW lW ws ls held)(hk:k<=h.next)(hw:ws.length<=1000000)(hl:ls.length<=1000000)(w:RW)(x:Int) :
  ∃ c' l' h2 h3,bB 1 24 cW (.slice h.next 0 1 1) ((h.alloc (.cells (CP w))).alloc (.cells (encI x)))=some (c',h2)/\bB 1 8 lW (.slice (h.next+1) 0 1 1) h2=some (l',h3) /\
   Np k h3 c' l' (ws++[w]) (ls++[x]) held/\(∀ c,c<k->h2.get c=h.get c/\h3.get c=h.get c)/\h.next<=h3.next:=by
 have g0:((h.alloc (.cells (CP w))).alloc (.cells (encI x))).get h.next=sC (CP w):=by
  rw [Heap.aN,Heap.aD,if_neg (by omega)];exact ak _ _
 have g1:((h.alloc (.cells (CP w))).alloc (.cells (encI x))).get (h.next+1)=sC (encI x):=ak _ _;have gx:aV h ((h.alloc (.cells (CP w))).alloc (.cells (encI x))):=(aV.alloc _ _).trans (aV.alloc _ _);have gn:((h.alloc (.cells (CP w))).alloc (.cells (encI x))).next=h.next+2:=rfl
 generalize ((h.alloc (.cells (CP w))).alloc (.cells (encI x)))=H at g0 g1 gx gn ⊢;have tH:=t.ext gx;have cge:∀ b,bR cW=some b->k<=b/\b<h.next:=fun b hb=>⟨t.oc.ge hb,t.oc.lt hb⟩
 have lge:∀ b,bR lW=some b->k<=b/\b<h.next:=fun b hb=>⟨t.ol.ge hb,t.ol.lt hb⟩
 obtain ⟨c',h2,p1,p2,p3,p4,p5⟩:=tH.oc.append OS Xf (row_one OS g0) (by omega) (bytes:=24) (by simp only [length_singleton];unfold cz;omega);have aiC:=p5 (by simp);have e1:h2.get (h.next+1)=sC (encI x):=by rw [p3 _ (by omega) (fun hb=>by have:=(cge _ hb).2;omega)];exact g1
 have ol2:Own encI 1 k h2 lW ls:=by
  have o:=tH.ol
  cases o with
  |nil=>exact .nil
  |row b l q1 q2 q3=>exact .row b _ q1 (by omega) (by rw [p3 b q2 (fun hb=>t.sep b hb rfl)];exact q3)
 obtain ⟨l',h3,r1,r2,r3,r4,r5⟩:=ol2.append pL ON (row_one pL e1) (by omega) (bytes:=8) (by simp only [length_singleton];unfold cz;omega);have aiD:=r5 (by simp)
 have oc3:Own CP 1 k h3 c' (ws++[w]):=by
  generalize hL:ws++[w]=L at p2
  cases p2 with
  |nil=>exact .nil
  |row b l q1 q2 q3=>exact .row b _ q1 (by omega) (by rw [r3 b q2 (fun hb=>by have:=(lge _ hb).2;have:=aiC b rfl;omega)];exact q3)
 refine ⟨c',l',h2,h3,p1,r1,⟨oc3,r2,fun v hv p hp=>?_,fun b hb gN=>?_⟩,fun c hc=>?_,by omega⟩
 ·obtain ⟨q1,q2,q3,q4,q5⟩:=t.ok v hv p hp;have a1:h2.get p.1=sC (p.2.map iv):=by rw [p3 _ (by omega) q4,gx.get _ q2];exact q3
  refine ⟨q1,by omega,by rw [r3 _ (by omega) q5];exact a1,fun h=>by have:=aiC _ h;omega,fun h=>by have:=aiD _ h;omega⟩
 ·have:=p2.lt hb;have:=aiD b gN;omega
 ·have a1:h2.get c=h.get c:=by rw [p3 c (by omega) (fun hb=>by have:=(cge _ hb).1;omega),gx.get c (by omega)]
  exact ⟨a1,by rw [r3 c (by omega) (fun hb=>by have:=(lge _ hb).1;omega)];exact a1⟩
theorem Xh:∀ ws:List RW,ws.flatMap CP=ws.map RW.av
 |[]=>rfl
 |w :: ws=>by rw [flatMap_cons,map_cons,Xh ws];rfl
theorem Xi:∀ ws:List RW,(ws.map fun w=>(w.map (·.2):Sl Int)).flatMap jl=ws.map fun w=>dH (w.map (·.2))
 |[]=>rfl
 |w :: ws=>by rw [map_cons,flatMap_cons,map_cons,Xi ws];rfl
theorem Np.Ad{ws:List RW}{ls:List Int}{held:List RW}(t:Np k h cW lW ws ls held)(hs:∀ w ∈ ws,w ∈ held):∃ x:Sl (Sl Int),x.l.map Sl.l=ws.map RW.l/\Fz true h cW (kM x):=by
 have pE:∀ w ∈ held,Fz true h w.av (dH (w.map (·.2))):=fun w hw=>by
  cases w with
  |none=>exact .de rfl
  |some p=>exact pT (t.ok _ hw p rfl).2.2.1
 obtain ⟨o,_,_,_⟩:=t
 cases o with
 |nil=>exact ⟨none,rfl,.de rfl⟩
 |row b ws h1 h2 h3=>
  refine ⟨some (ws.map fun w=>(w.map (·.2):Sl Int)),?_,?_⟩
  ·simp only [Sl.Dt,List.map_map];refine map_congr_left fun w _=>?_;cases w<;>rfl
  ·have e1:=Xh ws;have e2:=Xi ws;rw [e1] at h3
   have hf:Fz true h (.slice b 0 ws.length 1) (.ax (ws.map fun w=>dH (w.map (·.2))) 0 ws.length 1):=by
    refine .slice b 0 ws.length 1 _ _ h3 (by simp) fun i x y hx hy=>?_;rw [getElem?_map] at hx hy;obtain ⟨w,hw,rfl⟩:=map_eq_some_iff.1 hx;rw [hw] at hy;cases hy;exact pE w (hs w (ij hw))
   have:kM (some (ws.map fun w=>(w.map (·.2):Sl Int))) = .ax (ws.map fun w=>dH (w.map (·.2))) 0 ws.length 1:=by
    simp only [dR,e2,length_map]
   rw [this];exact hf
def pX(xs:List cc):Bool:=xs.all fG&&decide (xs.length<=12)
theorem eU{x:Sl cc}(hx:x.l.length<=cw){h:Heap}{K:Out->Heap->Bool}(hK:K (.ret (.bool (pX x.l))) h=true):Sem TP 154 [iz x] h K:=by
 refine F.FC ?_;rw [F.HH];refine aB 0 x.l.length (zero_le _) (fun i e h'=>h'=h/\e 0=iz x/\e 3=I6 (i:Int)/\(x.l.take i).all fG=true) ⟨rfl,rfl,rfl,rfl⟩ ?_ ?_
 ·rintro i e h' _ hi ⟨rfl,e0,e3,ht⟩ K' hn gl hr xb;obtain ⟨s,hv⟩:=dM hi;rw [F.eU.aP];simp only [e0,e3,aO,aU hi,aQ x hi,jX hv];refine af (fL ?_);simp only [aO]
  cases hq:fG s with
  |false=>
   simp only [Bool.not_false,aL];rw [hr,F.eU.bg];have:pX x.l=false:=by unfold pX;rw [all_false hv hq,Bool.false_and]
   rw [this] at hK;exact hK
  |true=>
   simp only [Bool.not_true,aK,aE hi hx,dr];exact hn _ _ ⟨rfl,e0,rfl,lE hv ht hq⟩
 ·rintro e h' ⟨rfl,e0,e3,ht⟩ K' gl;rw [F.eU.aP];simp only [e0,e3,aO,aR];rw [gl,F.eU.aC];simp only [e0,aO,reduceEqDiff,reduceIte];rw [jD (dK _)] at ht;have:pX x.l=decide ((x.l.length:Int)<=12):=by unfold pX;rw [ht,Bool.true_and];by_cases h:x.l.length<=12<;>simp<;>omega
  rw [this] at hK;exact hK
def yR(r:aI):List cc:=r.args.l++r.body.l.flatMap fun c=>c.args.l
theorem A1(o a b:List cc):gi o (a++b)=gi (gi o a) b:=by unfold gi;rw [foldl_append]
theorem A2:∀ (cs:List fT) (o:List cc),nj o cs=gi o (cs.flatMap fun c=>c.args.l)
 |[],o=>rfl
 |c :: cs,o=>by
  rw [flatMap_cons,A1];exact A2 cs (gi o c.args.l)
theorem BF(r:aI):varsOf r=gi [] (yR r):=by
 unfold varsOf yR;rw [A1,A2]
theorem OT{r:aI}(hf:r.k8)(i:Nat):(r.args.l++(r.body.l.take i).flatMap fun c=>c.args.l).length<=3000000:=by
 have:∀ (cs:List fT),(∀ c ∈ cs,c.args.l.length<=1500)->(cs.flatMap fun c=>c.args.l).length<=cs.length*1500:=by
  intro cs
  induction cs with
  |nil=>intro _;simp
  |cons c cs ih=>
   intro h;have h1:=ih fun d hd=>h d (mem_cons_of_mem _ hd);have h2:=h c mem_cons_self;rw [flatMap_cons,length_append,length_cons];omega
 have h1:=this (r.body.l.take i) fun c hc=>hf.2.2 c (mem_of_mem_take hc);have h2:=length_take_le i r.body.l;have h4:=length_take_le' i r.body.l;have:=hf.1;have:=hf.2.1;rw [length_append];omega
theorem bX{r:aI}(hf:r.k8){h:Heap}{K:Out->Heap->Bool}(hK:∀ x:Sl cc,x.l=varsOf r->K (.ret (iz x)) h=true) :
  Sem TP 43 [.agg [.str r.name,iz r.args,uE r.body]] h K:=by
 have A3:r.body.l.length<=cw:=by have:=hf.2.1;unfold cw;omega
 have main:Sem TP 43 [.agg [.str r.name,iz r.args,uE r.body]] Heap.empty (fun o h'=>yes (∃ v,∃ x:Sl cc,o = .ret v/\x.l=varsOf r/\Fz true h' v (iz x))):=by
  refine F.Al ?_;rw [F.Bq];have hb:eG (.agg [.str r.name,iz r.args,uE r.body])=some (bY r):=cD (kr r);have pE:eN [] [] []=some []:=rfl;simp only [hb,pE,dr,aZ,Heap.aD];have g0:(Heap.alloc (Heap.alloc Heap.empty (.cells (bY r))) (.cells [])).get 0=sC (bY r):=by simp [Heap.aN,aZ]
  have g1:(Heap.alloc (Heap.alloc Heap.empty (.cells (bY r))) (.cells [])).get 1=sC (([]:List cc).flatMap encS):=by simp [Heap.aN,aZ]
  have gn:(Heap.alloc (Heap.alloc Heap.empty (.cells (bY r))) (.cells [])).next=2:=rfl
  generalize (Heap.alloc (Heap.alloc Heap.empty (.cells (bY r))) (.cells []))=H at g0 g1 gn ⊢;have o0:Own encS 1 1 H (.slice (0+1) 0 0 1) []:=.row 1 [] (dK _) (by omega) g1;obtain ⟨a1,h1,p1,p2,p3,p4,p5⟩:=o0.append kz tF (wk kz r.args H) (by omega) (bytes:=16) (by have:=hf.1;unfold cz;simp only [length_nil];omega);have VT:h1.get 0=sC (bY r):=by rw [p3 0 (by omega) (fun hb=>by simp [bR] at hb)];exact g0
  simp only [aO,aj g0,bY];simp only [p1,aO]
  refine aB 0 r.body.l.length (zero_le _) (fun i e h'=>∃ a,h'.get 0=sC (bY r)/\2<=h'.next/\Own encS 1 1 h' a (r.args.l++(r.body.l.take i).flatMap fun c=>c.args.l)/\e 1 = .ptr 0 0/\e 3=a/\e 4=I6 (i:Int))
   ⟨a1,VT,by omega,by simpa using p2,rfl,rfl,rfl⟩ ?_ ?_
  ·rintro i e h' _ hi ⟨a,q0,qn,o,e1,e3,e4⟩ K' hn hx hr hp;obtain ⟨c,hv⟩:=dM hi;have hc:=hf.2.2 c (ij hv);obtain ⟨a2,h2,s1,s2,s3,s4,s5⟩:=o.append kz tF (wk kz c.args h') (by omega) (bytes:=16) (by have:=OT hf i;unfold cz;omega);have ld:∀ j,j<4->∀ h,au none (.dL (r.body.l.flatMap dZ) (i*4+j)) h=(dZ c)[j]?:=fun j hj h=>dU jO hv hj;rw [F.bX.aP];simp only [e1,e3,e4,aO,aj q0,bY,aU hi,aQ r.body hi];simp only [aO,reduceAdd,Nat.add_assoc,reduceAdd,ld 3 (by omega),dZ,s1,aE hi A3];refine hn _ _ ⟨a2,?_,by omega,?_,e1,rfl,rfl⟩
   ·rw [s3 0 (by omega) (fun hb=>by have:=o.ge hb;omega)];exact q0
   ·rw [take_add_one,hv,flatMap_append,<- append_assoc];simpa using s2
  ·rintro e h' ⟨a,q0,qn,o,e1,e3,e4⟩ K' hx;rw [jD (dK _)] at o;have hal:(yR r).length<=3000000:=by have:=OT hf r.body.l.length;rw [jD (dK _)] at this;exact this
   have rO:(yR r).length<=cw:=by unfold cw;omega
   have o':Own encS 1 1 h' a (yR r):=o;rw [F.bX.aP];simp only [e1,e4,aO,aj q0,bY,aR];rw [hx,F.bX.aC]
   refine aB 0 (yR r).length (zero_le _) (fun i e h2=>∃ b,aV h' h2/\Own encS 1 h'.next h2 b (gi [] ((yR r).take i))/\e 3=a/\e 5=b/\e 6=I6 (i:Int))
    ⟨.ai,aV.refl _,by simpa [gi] using Own.nil,by simp only [kC,reduceEqDiff,reduceIte,e3],rfl,rfl⟩ ?_ ?_
   ·rintro i e h2 _ hi ⟨b,x2,ob,e3,e5,e6⟩ K2 hn fK hr hp;have hv:(yR r)[i]?=some (yR r)[i]:=jQ hi;generalize (yR r)[i]=s at hv;have oa:=o'.ext x2;obtain ⟨q,_,g1,g2⟩:=yK oa hv
    have hlb:(gi [] ((yR r).take i)).length<=3000000:=by
     have h1:=tI ((yR r).take i) [];have h2:=length_take_le' i (yR r);simp only [length_nil] at h1;omega
    have aiE:((gi [] ((yR r).take i)).any fun x=>x==s)=(gi [] ((yR r).take i)).any fun x=>s==x:=by
     congr 1;funext x;exact Bool.eq_iff_iff.2 ⟨fun h=>by rw [beq_iff_eq] at h ⊢;exact h.symm,fun h=>by rw [beq_iff_eq] at h ⊢;exact h.symm⟩
    have gw:=EX (o:=[]) hv;unfold DX at gw;rw [F.bX.cU];simp only [e3,e5,e6,oa.len,aO,aU hi,g1,g2];refine af (eu ob (by unfold cw;omega) ?_);rw [aiE];simp only [aO]
    cases hq:(gi [] ((yR r).take i)).any fun x=>s==x with
    |true=>
     rw [hq,if_pos rfl] at gw;simp only [Bool.not_true,aK,aE hi rO,dr];exact hn _ _ ⟨b,x2,by rw [gw];exact ob,e3,e5,rfl⟩
    |false=>
     rw [hq,if_neg (by simp)] at gw;obtain ⟨b2,h3,p1,p2,p3,p4,p5,p6⟩:=ob.push kz tF x2.next (bytes:=16) (by unfold cz;omega) s
     simp only [Bool.not_false,aL,g2,aO,acw,p1,aE hi rO];exact hn _ _ ⟨b2,p5 h' x2 (dK _),by rw [gw];exact p2,e3,rfl,rfl⟩
   ·rintro e h2 ⟨b,x2,ob,e3,e5,e6⟩ K2 fK;have oa:=o'.ext x2;rw [F.bX.cU];simp only [e3,e6,oa.len,aO,aR];rw [fK,F.bX.cm];rw [jD (dK _),<- BF] at ob;simp only [kC,reduceEqDiff,reduceIte,e5]
    obtain ⟨x,jM,fK⟩:=ob.J7 (fun v y hy=>by
     simp only [encS,mem_cons,not_mem_nil,_root_.or_false] at hy
     subst hy;exact .scalar _ rfl)
    exact bO.2 ⟨b,x,rfl,jM,fK⟩
 refine main.frozen (by have:=fN r;simpa [bY,AV.cP,AV.pure] using this) fun o h' ho=>?_;obtain ⟨v,x,rfl,hx,hfz⟩:=bO.1 ho;exact ⟨v,_,rfl,hfz,hK x hx⟩
def Ts(a b:Int):Int:=if b>a then b else a
theorem OU(a b:Int):AJ true (I6 a) [I6 b]=some (I6 (Ts a b)):=by simp [AJ,QD,Ts]
def jJ(ps:List Nat):Int:=ps.foldl (fun a (p:Nat)=>Ts a (p:Int)) (-1)
theorem Xj{t:cc}:s ∈ DX o t↔s ∈ o\/s=t:=by
 unfold DX;split
 ·rename_i h;obtain ⟨x,hx,hq⟩:=List.any_eq_true.1 h;rw [beq_iff_eq] at hq;exact ⟨.inl,fun h=>h.elim id fun e=>by rw [e,hq];exact hx⟩
 ·simp
theorem Ix{s:cc}:∀ {l o:List cc},s ∈ gi o l↔s ∈ o\/s ∈ l
 |[],o=>by simp [gi]
 |t :: l,o=>by
  show s ∈ gi (DX o t) l↔_;rw [Ix,Xj,mem_cons,_root_.or_assoc]
theorem OV{r:aI}:s ∈ varsOf r↔s ∈ yR r:=by rw [BF,Ix];simp
theorem nH{r:aI}:∀ s ∈ r.args.l,s ∈ varsOf r:=fun s hs=>OV.2 (mem_append_left _ hs)
theorem vo{r:aI}{c:fT}(hc:c ∈ r.body.l):∀ s ∈ c.args.l,s ∈ varsOf r:=fun s hs=>OV.2 (mem_append_right _ (mem_flatMap.2 ⟨c,hc,hs⟩))
def k9(vars xs:List cc):List Int:=(placesOf vars xs).map fun (p:Nat)=>(p:Int)
theorem Xk(i n:Int)(nm:cc)(xs:Sl cc)(ys:Sl fT)(w:RW):iP [I6 0,.str [],.ai,.ai,I6 0,.ai,.ai,.ai] [(0,1),(1,3),(4,1),(5,1)] [I6 i,.agg [.str nm,iz xs,uE ys],I6 n,w.av]=some (.agg [I6 i,.str nm,iz xs,uE ys,I6 n,w.av,.ai,.ai]):=by
 cases xs<;>cases ys<;>cases w<;>rfl
theorem Xl(s:St):dz TP s Tryz.f102.results.toList=(match au (some 8) (s.env 4) s.h,(some []:Option (List AV)) with|some v,some vs=>some (v :: vs)|_,_=>none):=by kernel_rfl
theorem Tt(a b c d e f g i:AV):kQ (some 8) [a,b,c,d,e,f,g,i] 0=some (.agg [a,b,c,d,e,f,g,i]):=rfl
def bZ(i:Int)(r:aI)(n:Int)(hd c l:AV):List AV:=[I6 i,.str r.name,iz r.args,uE r.body,I6 n,hd,c,l]
theorem OW(i:Int)(r:aI)(n:Int)(w:RW){c l:AV}(hc:aW [c]=true)(hl:aW [l]=true):aW (bZ i r n w.av c l)=true:=by
 have hw:w.av.one=true:=by cases w<;>rfl
 unfold bZ;simp only [aW,Bool.and_true] at hc hl ⊢;simp only [fS,hw,hc,hl,Bool.and_true];rfl
theorem Xm{P:Nat}{cs vs:List AV}(hP:h.get P=sC cs)(hc:cs.length=8)(hv:vs.length=8)(h1:aW vs=true):aS 8 (.ptr P 0) (.agg vs) h=some (h.set P (.cells vs)):=by
 rw [cj hP (by exact hv) (by exact h1) (by omega)];congr 1
 match cs,hc,vs,hv with
 |[a,b,c,d,e,f,g,i],_,[a',b',c',d',e',f',g',i'],_=>rfl
theorem cS{i0:Int}{r:aI}(hf:r.k8){h:Heap}{K:Out->Heap->Bool}
  (hK:∀ (hd:Sl Int) (cs:Sl (Sl Int)) (ls:Sl Int),hd.l=k9 (varsOf r) r.args.l->cs.l.map Sl.l=r.body.l.map (fun c=>k9 (varsOf r) c.args.l)->ls.l=r.body.l.map (fun c=>jJ (placesOf (varsOf r) c.args.l)) ->
   K (.ret (.agg (bZ i0 r (varsOf r).length (dH hd) (kM cs) (dH ls)))) h=true) :
  Sem TP 102 [I6 i0,.agg [.str r.name,iz r.args,uE r.body]] h K:=by
 have A3:r.body.l.length<=cw:=by have:=hf.2.1;unfold cw;omega
 have BU:(varsOf r).length<=3000000:=by have:=OL hf r.body.l.length;rw [jD (dK _)] at this;exact this
 have gen:∀ R:Out->Heap->Bool,(∀ (h':Heap) (sq:RW) (cW lW:AV) (cs:Sl (Sl Int)) (ls:Sl Int),Fz true h' sq.av (dH (sq.map (·.2)))->sq.l=k9 (varsOf r) r.args.l->Fz true h' cW (kM cs)->Fz true h' lW (dH ls) ->
   cs.l.map Sl.l=r.body.l.map (fun c=>k9 (varsOf r) c.args.l)->ls.l=r.body.l.map (fun c=>jJ (placesOf (varsOf r) c.args.l))->R (.ret (.agg (bZ i0 r (varsOf r).length sq.av cW lW))) h'=true) ->
   Sem TP 102 [I6 i0,.agg [.str r.name,iz r.args,uE r.body]] Heap.empty R:=by
  intro R fin;refine F.DH ?_;rw [F.FG];have hb:eG (.agg [.str r.name,iz r.args,uE r.body])=some (bY r):=cD (kr r);simp only [hb,dr,aZ,Heap.aD];have g0:(Heap.alloc (Heap.alloc Heap.empty (.cells (bY r))) (.cells [I6 0,.str [],.ai,.ai,I6 0,.ai,.ai,.ai])).get 0=sC (bY r):=by simp [Heap.aN,aZ]
  have g1:(Heap.alloc (Heap.alloc Heap.empty (.cells (bY r))) (.cells [I6 0,.str [],.ai,.ai,I6 0,.ai,.ai,.ai])).get 1=sC [I6 0,.str [],.ai,.ai,I6 0,.ai,.ai,.ai]:=by simp [Heap.aN,aZ]
  have gn:(Heap.alloc (Heap.alloc Heap.empty (.cells (bY r))) (.cells [I6 0,.str [],.ai,.ai,I6 0,.ai,.ai,.ai])).next=2:=rfl
  generalize (Heap.alloc (Heap.alloc Heap.empty (.cells (bY r))) (.cells [I6 0,.str [],.ai,.ai,I6 0,.ai,.ai,.ai]))=H at g0 g1 gn ⊢;simp only [aj g0,bY,si,dr];refine af (dW hf fun x jM=>?_);have Qp:x.l.length<=cw:=by rw [jM];unfold cw;omega
  obtain ⟨H3,S5,k2,ko,kn⟩:=oM (h:=H) (z:=.ai) (v:=iz x) (by cases x<;>rfl) (by simp only [aW,fS];rfl);have q0:H3.get 0=sC (bY r):=by rw [ko 0 (by omega)];exact g0
  have q1:H3.get 1=sC [I6 0,.str [],.ai,.ai,I6 0,.ai,.ai,.ai]:=by rw [ko 1 (by omega)];exact g1
  rw [gn] at S5 k2;simp only [aO,gn,S5];simp only [aO,aj q0,aj k2,bY,si,show H3.next=3 by omega];have gx:=aV.alloc H3 (.cells [I6 0,.str [],.ai,.ai,I6 0,.ai,.ai,.ai])
  have g3:(H3.alloc (.cells [I6 0,.str [],.ai,.ai,I6 0,.ai,.ai,.ai])).get 3=sC [I6 0,.str [],.ai,.ai,I6 0,.ai,.ai,.ai]:=by
   have:=ak H3 (.cells [I6 0,.str [],.ai,.ai,I6 0,.ai,.ai,.ai]);rw [show H3.next=3 by omega] at this;exact this
  have gn3:(H3.alloc (.cells [I6 0,.str [],.ai,.ai,I6 0,.ai,.ai,.ai])).next=4:=by rw [Heap.aD];omega
  generalize (H3.alloc (.cells [I6 0,.str [],.ai,.ai,I6 0,.ai,.ai,.ai]))=H4 at gx g3 gn3 ⊢;have p0:H4.get 0=sC (bY r):=by rw [gx.get 0 (by omega)];exact q0
  have p1:H4.get 1=sC [I6 0,.str [],.ai,.ai,I6 0,.ai,.ai,.ai]:=by rw [gx.get 1 (by omega)];exact q1
  have p2:H4.get 2=sC [iz x]:=by rw [gx.get 2 (by omega)];exact k2
  refine af (OR p2 (by omega) (fun s hs=>by rw [jM];exact nH s hs) (by have:=hf.1;omega) Qp fun a h5 oa x5=>?_);rw [gn3] at oa;obtain ⟨sq,rfl,hdl,hdk⟩:=Xg oa;have r0:=x5.at p0 (by omega);have r1:=x5.at p1 (by omega);have r2:=x5.at p2 (by omega);have r3:=x5.at g3 (by omega);have rn:=x5.next
  have jL:=Xm (vs:=bZ i0 r (varsOf r).length sq.av .ai .ai) r3 rfl rfl (OW _ _ _ _ rfl rfl);have ye:=Xk i0 (varsOf r).length r.name r.args r.body sq;rw [<- jM] at jL ye;simp only [aO,aj r0,aj r2,bY,si,AV.beq_refl,Bool.and_self,Bool.and_true,if_true,ye];simp only [bZ] at jL;simp only [jL,aO]
  have t0:Np 4 (h5.set 3 (.cells (bZ i0 r x.l.length sq.av .ai .ai))) .ai .ai [] [] [sq]:=
   (Np.low ⟨.nil,.nil,fun w hw p hp=>by
    rw [mem_singleton] at hw;subst hw;obtain ⟨a1,a2,a3⟩:=hdk p hp
    exact ⟨a1,a2,a3,by simp [bR],by simp [bR]⟩,fun b hb=>by simp [bR] at hb⟩ (by omega) _)
  have s0:(h5.set 3 (.cells (bZ i0 r x.l.length sq.av .ai .ai))).get 0=sC (bY r):=by rw [Heap.aG,if_neg (by omega)];exact r0
  have s1:(h5.set 3 (.cells (bZ i0 r x.l.length sq.av .ai .ai))).get 1=sC [I6 0,.str [],.ai,.ai,I6 0,.ai,.ai,.ai]:=by rw [Heap.aG,if_neg (by omega)];exact r1
  have s2:(h5.set 3 (.cells (bZ i0 r x.l.length sq.av .ai .ai))).get 2=sC [iz x]:=by rw [Heap.aG,if_neg (by omega)];exact r2
  have s3:(h5.set 3 (.cells (bZ i0 r x.l.length sq.av .ai .ai))).get 3=sC (bZ i0 r x.l.length sq.av .ai .ai):=by rw [Heap.aG,if_pos rfl]
  have sn:(h5.set 3 (.cells (bZ i0 r x.l.length sq.av .ai .ai))).next=h5.next:=Heap.aT _ _ _
  simp only [bZ] at t0 s0 s1 s2 s3 sn;generalize (h5.set 3 (.cells [I6 i0,.str r.name,iz r.args,uE r.body,I6 (x.l.length:Int),sq.av,.ai,.ai]))=H6 at t0 s0 s1 s2 s3 sn ⊢;simp only [aj s0,bY,aO]
  refine aB 0 r.body.l.length (zero_le _) (fun i e h'=>∃ cW lW ws ls,Np 4 h' cW lW ws ls (sq :: ws)/\ws.map RW.l=(r.body.l.take i).map (fun c=>k9 (varsOf r) c.args.l)/\ls=(r.body.l.take i).map (fun c=>jJ (placesOf (varsOf r) c.args.l)) /\
   h'.get 1=sC [I6 0,.str [],.ai,.ai,I6 0,.ai,.ai,.ai]/\h'.get 2=sC [iz x]/\h'.get 3=sC [I6 i0,.str r.name,iz r.args,uE r.body,I6 (x.l.length:Int),sq.av,cW,lW]/\4<=h'.next /\
   e 4 = .ptr 1 0/\e 6 = .func 144 [] [.ptr 2 0]/\e 7 = .ptr 3 0/\e 28=uE r.body/\e 29=I6 (r.body.l.length:Int)/\e 30=I6 (i:Int))
   ⟨.ai,.ai,[],[],t0,rfl,rfl,s1,s2,s3,by omega,rfl,rfl,rfl,rfl,rfl,rfl⟩ ?_ ?_
  ·rintro i e h' _ hi ⟨cW,lW,ws,ls,tw,hws,RF,u1,u2,u3,un,e4,e6,e7,Qq,e29,e30⟩ K' hn hx hr hp;obtain ⟨c,hv⟩:=dM hi;have xN:=ij hv;have amc:=hf.2.2 c xN;obtain ⟨H2,se,c1,co,cn⟩:=cA (h:=h') (zs:=[I6 0,bF,.str [],.ai]) (cs:=dZ c) (n:=4) rfl rfl (jP c);have x2:aV h' H2:=⟨by omega,fun b hb=>co b (by omega)⟩
   rw [F.cS.aP];simp only [e6,Qq,e29,e30,aO,reduceAdd,aU hi,aQ r.body hi,dB jO hv,se];simp only [aO,aj c1,dZ,iy,nil_append,cons_append];refine af (OR (xs:=c.args) (x2.at u2 (by omega)) (by omega) (fun s hs=>by rw [jM];exact vo xN s hs) (by omega) Qp fun a h3 oa x3=>?_);rw [jM] at oa;obtain ⟨w,rfl,hwl,hwk⟩:=Xg oa;have Xn:=x2.trans x3;have tw3:=tw.ext Xn;have v1:=Xn.at u1 (by omega);have v2:=Xn.at u2 (by omega);have v3:=Xn.at u3 (by omega);have vn:=Xn.next
   have twh:Np 4 h3 cW lW ws ls (sq :: ws++[w]):=tw3.hold (j:=H2.next) (fun p hp=>by
    obtain ⟨a1,a2,a3⟩:=hwk p hp
    exact ⟨a1,by omega,a2,a3⟩) (fun b hb=>by have:=tw.oc.lt hb;omega) (fun b hb=>by have:=tw.ol.lt hb;omega)
   have sF:(placesOf (varsOf r) c.args.l).length<=cw:=by unfold placesOf cw;rw [length_map];omega
   have hlen:∀ h,bK .slice w.av h=some (I6 ((placesOf (varsOf r) c.args.l).length:Int)):=fun h=>by rw [oa.len];simp
   simp only [aO,hlen]
   refine aB 0 (placesOf (varsOf r) c.args.l).length (zero_le _) (fun j e h2=>h2=h3/\e 4 = .ptr 1 0/\e 6 = .func 144 [] [.ptr 2 0]/\e 7 = .ptr 3 0/\e 28=uE r.body/\e 29=I6 (r.body.l.length:Int)/\e 30=I6 (i:Int) /\
    e 10=w.av/\e 11=I6 (jJ ((placesOf (varsOf r) c.args.l).take j))/\e 39=w.av/\e 40=I6 ((placesOf (varsOf r) c.args.l).length:Int)/\e 41=I6 (j:Int)) ⟨rfl,e4,e6,e7,Qq,e29,e30,rfl,rfl,rfl,rfl,rfl⟩ ?_ ?_
   ·rintro j e h2 _ hj ⟨rfl,e4,e6,e7,Qq,e29,e30,iJ,l9,UR,Tu,e41⟩ K2 qj fK r7 Ay;have RG:(placesOf (varsOf r) c.args.l)[j]?=some (placesOf (varsOf r) c.args.l)[j]:=jQ hj;generalize (placesOf (varsOf r) c.args.l)[j]=p at RG;have Ze:((placesOf (varsOf r) c.args.l).map fun (p:Nat)=>(p:Int))[j]?=some (p:Int):=by rw [getElem?_map,RG];rfl
    obtain ⟨b,_,_,i1,_,i3⟩:=oa.get pL Ze;have i3':au none (.ptr b (j*1)) h2=some (I6 (p:Int)):=i3 0 (by omega);rw [F.cS.cU];simp only [l9,UR,Tu,e41,aO,aU hj,i1,i3',OU,aE hj sF];refine qj _ _ ⟨rfl,e4,e6,e7,Qq,e29,e30,iJ,?_,UR,Tu,rfl⟩;have:jJ ((placesOf (varsOf r) c.args.l).take (j+1))=Ts (jJ ((placesOf (varsOf r) c.args.l).take j)) (p:Int):=by unfold jJ;rw [take_add_one,RG];simp
    rw [this];rfl
   ·rintro e h2 ⟨rfl,e4,e6,e7,Qq,e29,e30,iJ,l9,UR,Tu,e41⟩ K2 fK;rw [jD (dK _)] at l9;have arW:ws.length<=1500:=by have h1:=congrArg List.length hws;simp only [length_map] at h1;have h2:=length_take_le' i r.body.l;have:=hf.2.1;omega
    have arX:ls.length<=1500:=(by rw [RF,length_map];have h2:=length_take_le' i r.body.l;have:=hf.2.1;omega);obtain ⟨c',l',m2,m3,t1,t2,t3,t4,t5⟩:=twh.push (by omega) (by omega) (by omega) w (jJ (placesOf (varsOf r) c.args.l));have y3:m2.get 3=sC [I6 i0,.str r.name,iz r.args,uE r.body,I6 (x.l.length:Int),sq.av,cW,lW]:=by rw [(t4 3 (by omega)).1];exact v3
    have z3:m3.get 3=sC [I6 i0,.str r.name,iz r.args,uE r.body,I6 (x.l.length:Int),sq.av,cW,lW]:=(by rw [(t4 3 (by omega)).2];exact v3);obtain ⟨w1,w2⟩:=yO t3.oc;obtain ⟨w3,w4⟩:=yO t3.ol
    have st1:aS 1 (.ptr 3 6) c' m3=some (m3.set 3 (.cells [I6 i0,.str r.name,iz r.args,uE r.body,I6 (x.l.length:Int),sq.av,c',lW])):=by
     rw [cj (n:=1) z3 (by rw [w1];rfl) (by rw [w1];exact w2) (by simp),w1];rfl
    have z4:(m3.set 3 (.cells [I6 i0,.str r.name,iz r.args,uE r.body,I6 (x.l.length:Int),sq.av,c',lW])).get 3=sC [I6 i0,.str r.name,iz r.args,uE r.body,I6 (x.l.length:Int),sq.av,c',lW]:=by rw [Heap.aG,if_pos rfl]
    have US:aS 1 (.ptr 3 7) l' (m3.set 3 (.cells [I6 i0,.str r.name,iz r.args,uE r.body,I6 (x.l.length:Int),sq.av,c',lW]))=some ((m3.set 3 (.cells [I6 i0,.str r.name,iz r.args,uE r.body,I6 (x.l.length:Int),sq.av,c',lW])).set 3 (.cells [I6 i0,.str r.name,iz r.args,uE r.body,I6 (x.l.length:Int),sq.av,c',l'])):=by
     rw [cj (n:=1) z4 (by rw [w3];rfl) (by rw [w3];exact w4) (by simp),w3];rfl
    rw [F.cS.cU];simp only [Tu,e41,aO,aR];rw [fK,F.cS.cm];simp only [e7,iJ,l9,e30,aO,reduceEqDiff,reduceIte,aj v3,aiB,acz,Heap.aD];rw [aj (r:=none) (o:=7) (h:=(Heap.alloc h2 (.cells (CP w)))) (cs:=[I6 i0,.str r.name,iz r.args,uE r.body,I6 (x.l.length:Int),sq.av,cW,lW]) (by rw [Heap.aN,if_neg (by omega)];exact v3)];simp only [aO,t1,aj y3,AV.beq_refl,Bool.and_self,if_true,t2,st1,US,aE hi A3];refine hn _ _ ⟨c',l',ws++[w],ls++[jJ (placesOf (varsOf r) c.args.l)],(t3.low (by omega) _).low (by omega) _,?_,?_,?_,?_,by rw [Heap.aG,if_pos rfl],by rw [Heap.aT,Heap.aT];omega,e4,e6,e7,Qq,e29,rfl⟩
    ·rw [map_append,hws,take_add_one,hv,map_append];simp only [map_cons,map_nil,toList_some];rw [hwl];rfl
    ·rw [RF,take_add_one,hv,map_append];rfl
    ·rw [Heap.aG,if_neg (by omega),Heap.aG,if_neg (by omega),(t4 1 (by omega)).2];exact v1
    ·rw [Heap.aG,if_neg (by omega),Heap.aG,if_neg (by omega),(t4 2 (by omega)).2];exact v2
  ·rintro e h' ⟨cW,lW,ws,ls,tw,hws,RF,u1,u2,u3,un,e4,e6,e7,Qq,e29,e30⟩ K' hx;rw [jD (dK _)] at hws RF;obtain ⟨_,w2⟩:=yO tw.oc;obtain ⟨_,w4⟩:=yO tw.ol;have aiG:=Xm (vs:=bZ i0 r x.l.length sq.av cW lW) u1 rfl rfl (OW _ _ _ _ w2 w4);simp only [bZ] at aiG;rw [F.cS.aP];simp only [e29,e30,aO,reduceAdd,aR];rw [hx,F.cS.aC];simp only [e4,e7,aO,reduceEqDiff,reduceIte,aj u3,Tt,aiG,Xl];have tf:=tw.low (by omega:1<4) (.cells [I6 i0,.str r.name,iz r.args,uE r.body,I6 (x.l.length:Int),sq.av,cW,lW]);have gf:(h'.set 1 (.cells [I6 i0,.str r.name,iz r.args,uE r.body,I6 (x.l.length:Int),sq.av,cW,lW])).get 1=sC [I6 i0,.str r.name,iz r.args,uE r.body,I6 (x.l.length:Int),sq.av,cW,lW]:=by rw [Heap.aG,if_pos rfl]
   simp only [aj gf,Tt,dr,oneOf];obtain ⟨cs,cs1,cs2⟩:=tf.Ad (fun w hw=>mem_cons_of_mem _ hw)
   obtain ⟨lx,lx1,lx2⟩:=tf.ol.J7 (fun v y hy=>by
    simp only [encI,mem_cons,not_mem_nil,_root_.or_false] at hy
    subst hy;exact .scalar _ rfl)
   have hfz:Fz true (h'.set 1 (.cells [I6 i0,.str r.name,iz r.args,uE r.body,I6 (x.l.length:Int),sq.av,cW,lW])) sq.av (dH (sq.map (·.2))):=by
    cases sq with
    |none=>exact .de rfl
    |some p=>exact pT (tf.ok _ mem_cons_self p rfl).2.2.1
   have:=fin _ sq cW lW cs lx hfz (by rw [<- jM];exact hdl) cs2 lx2 (by rw [cs1,hws]) (by rw [lx1,RF]);rw [<- jM] at this;exact this
 have main:=gen (fun o h'=>yes (∃ (sq:RW) (cW lW:AV) (cs:Sl (Sl Int)) (ls:Sl Int),o = .ret (.agg (bZ i0 r (varsOf r).length sq.av cW lW))/\Fz true h' sq.av (dH (sq.map (·.2)))/\sq.l=k9 (varsOf r) r.args.l/\Fz true h' cW (kM cs)/\Fz true h' lW (dH ls) /\
   cs.l.map Sl.l=r.body.l.map (fun c=>k9 (varsOf r) c.args.l)/\ls.l=r.body.l.map (fun c=>jJ (placesOf (varsOf r) c.args.l)))) (fun h' sq cW lW cs ls f1 f2 f3 f4 f5 f6=>bO.2 ⟨sq,cW,lW,cs,ls,rfl,f1,f2,f3,f4,f5,f6⟩)
 refine main.frozen (by have:=fN r;simpa [bY,AV.cP,AV.pure] using this) fun o h' ho=>?_;obtain ⟨sq,cW,lW,cs,ls,rfl,f1,f2,f3,f4,f5,f6⟩:=bO.1 ho
 have fl:j8 true h' (bZ i0 r (varsOf r).length sq.av cW lW) (bZ i0 r (varsOf r).length (dH (sq.map (·.2))) (kM cs) (dH ls)):=
  .cons (.scalar _ rfl) (.cons (.scalar _ rfl) (.cons (.de (br jc _)) (.cons (.de (br BA _)) (.cons (.scalar _ rfl) (.cons f1 (.cons f3 (.cons f4 .nil)))))))
 exact ⟨_,_,rfl,.agg _ _ fl.len fl.rel,hK (sq.map (·.2)) cs ls (by rw [<- f2];cases sq<;>rfl) f5 f6⟩
theorem mc(vs:List Int)(ps:List Nat):(bL vs ps).length=ps.length:=by simp [bL]
theorem qO(hb:jN n vs=true){ps:List Nat}(uN:∀ p ∈ ps,p<vs.length):jN n (bL vs ps)=true:=by
 unfold jN at hb ⊢;rw [List.all_eq_true] at hb ⊢;intro v hv;unfold bL at hv;obtain ⟨p,hp,rfl⟩:=mem_map.1 hv;have sF:=uN p hp;refine hb _ ?_;rw [getD_eq_getElem?_getD,jQ sF];exact getElem_mem sF
theorem nI{vars xs:List cc}(h:∀ s ∈ xs,s ∈ vars):∀ p ∈ placesOf vars xs,p<vars.length:=fun p hp=>by
 unfold placesOf at hp;obtain ⟨s,hs,rfl⟩:=mem_map.1 hp;exact idxOf_lt_length_of_mem (h s hs)
structure CQ (n:Nat) (D:cc->Option (Nat×List Bool)) (r:aI):Prop where
 rel:∀ c ∈ r.body.l,c.kind=0->n ^ c.args.l.length<=4096/\∃ p,D c.name=some p/\p.2.length=n ^ c.args.l.length
 two:∀ c ∈ r.body.l,c.kind=1\/c.kind=2->c.args.l.length=2
 kinds:∀ c ∈ r.body.l,c.kind=0\/c.kind=1\/c.kind=2
 arity:∀ c ∈ r.body.l,c.args.l.length<=12
def bH(r:aI)(c:fT):List Nat:=placesOf (varsOf r) c.args.l
def F8(n:Nat)(look:cc->Nat->Bool)(r:aI)(vs:List Int)(upto:Int):Bool:=r.body.l.all fun c=>!decide (jJ (bH r c)=upto)||fQ n look c (bL vs (bH r c))
theorem OX{lo:Nat}{r:aI}{nv:Int}{hd:Sl Int}{cs:Sl (Sl Int)}{ls:Sl Int}(hf:r.k8)(hcs:cs.l.map Sl.l=r.body.l.map (fun c=>k9 (varsOf r) c.args.l))(RF:ls.l=r.body.l.map (fun c=>jJ (placesOf (varsOf r) c.args.l)))
  (hS:h.get S=sC [I6 (n:Int),.map B]) (hD:ei D h B lo) (Xe:S<h.next) (h0:h.get N0=sC [.ptr S 0]) (h0n:N0<h.next) (h1:h.get N1=sC (bZ i0 r nv (dH hd) (kM cs) (dH ls))) (h1n:N1<h.next)
  (h4:h.get N4=sC [.slice V 0 vs.length 1]) (h4n:N4<h.next) (hV:h.get V=sC (vs.map iv)) (hVn:V<h.next) (BU:vs.length=(varsOf r).length) (Gv:jN n vs=true) (n1:1<=n) (hk:CQ n D r) {upto:Int}
  (hK:∀ h',aV h h'->K (.ret (.bool (F8 n (ee D) r vs upto))) h'=true):Sem TP 157 [I6 upto,.ptr N1 0,.ptr N0 0,.ptr N4 0] h K:=by
 have A3:r.body.l.length<=cw:=by have:=hf.2.1;unfold cw;omega
 have hcl:cs.l.length=r.body.l.length:=by have:=congrArg List.length hcs;simpa using this
 have Nq:ls.l.length=r.body.l.length:=by rw [RF];simp
 refine F.vZ ?_;rw [F.xo];simp only [bZ] at h1;simp only [aO,reduceAdd,aj h1]
 refine aB 0 r.body.l.length (zero_le _) (fun i e h'=>aV h h'/\e 0=I6 upto/\e 1 = .ptr N1 0/\e 2 = .ptr N0 0/\e 3 = .ptr N4 0/\e 10=uE r.body/\e 11=I6 (r.body.l.length:Int)/\e 12=I6 (i:Int) /\
  (r.body.l.take i).all (fun c=>!decide (jJ (bH r c)=upto)||fQ n (ee D) c (bL vs (bH r c)))=true) ⟨aV.refl _,rfl,rfl,rfl,rfl,rfl,rfl,rfl,rfl⟩ ?_ ?_
 ·rintro i e h' _ hi ⟨x1,e0,e1,e2,e3,iJ,l9,uq,ht⟩ K' hn hx hr hp;obtain ⟨c,hv⟩:=dM hi;have xN:=ij hv;obtain ⟨H2,se,c1,co,cn⟩:=cA (h:=h') (zs:=[I6 0,bF,.str [],.ai]) (cs:=dZ c) (n:=4) rfl rfl (jP c);have x2:aV h H2:=x1.trans ⟨by omega,fun b hb=>co b (by omega)⟩;have q1:H2.get N1=sC [I6 i0,.str r.name,iz r.args,uE r.body,I6 nv,dH hd,kM cs,dH ls]:=by rw [x2.get _ h1n];exact h1
  have q0:H2.get N0=sC [.ptr S 0]:=by rw [x2.get _ h0n];exact h0
  have q4:H2.get N4=sC [.slice V 0 vs.length 1]:=by rw [x2.get _ h4n];exact h4
  have qV:H2.get V=sC (vs.map iv):=by rw [x2.get _ hVn];exact hV
  have CR:ls.l[i]?=some (jJ (bH r c)):=by rw [RF,getElem?_map,hv];rfl
  have n1x:=x1.next
  rw [F.dy.aP];simp only [e0,e1,e2,e3,iJ,l9,uq,aO,aU hi,aQ r.body hi,dB jO hv,se];simp only [aO,aj q1,aQ ls (show i<ls.l.length by omega),gh CR,cy];by_cases hu:jJ (bH r c)=upto
  ·have hci:i<cs.l.length:=by omega
   have pE:cs.l[i]?=some cs.l[i]:=jQ hci
   have BV:(cs.l[i]).l=(bH r c).map fun (p:Nat)=>(p:Int):=by
    have h3:(cs.l.map Sl.l)[i]?=some (k9 (varsOf r) c.args.l):=(by rw [hcs,getElem?_map,hv];rfl);rw [getElem?_map,pE] at h3;exact Option.some.inj h3
   generalize cs.l[i]=xi at pE BV;have sF:∀ p ∈ bH r c,p<vs.length:=by rw [BU];exact nI (vo xN)
   have nr:(bH r c).length=c.args.l.length:=by unfold bH placesOf;simp
   simp only [fh hu,aL,aO,aj q0,aj q4,aj c1,dZ,MH,aQ cs hci,eY pE];refine af (MN (ps:=bH r c) qV (by have:=x2.next;omega) rfl BV sF (by rw [nr];have:=hk.arity c xN;omega) fun h3 t1 x3 t2=>?_);have c3:=x3.at c1 (by omega);have q03:h3.get N0=sC [.ptr S 0]:=by rw [x3.get _ (by have:=x2.next;omega)];exact q0
   have Xn:=x2.trans x3;simp only [aO,aj c3,aj q03,dZ,MH,AV.beq_refl,Bool.and_self,Bool.and_true,if_true];have ur:=mc vs (bH r c);have hS3:h3.get S=sC [I6 (n:Int),.map B]:=by rw [Xn.get _ Xe];exact hS
   rw [<- ur];refine af (OQ (D:=D) (lo:=lo) hS3 (hD.ext Xn) n1 t1 t2 (by have:=Xn.next;omega) (by rw [ur,nr];exact hk.arity c xN) (qO Gv sF) (fun k0=>by rw [ur,nr];exact hk.rel c xN k0) (fun Kc=>by rw [ur,nr];exact hk.two c xN Kc) (hk.kinds c xN) fun h5 x5=>?_);simp only [aO]
   cases hcv:fQ n (ee D) c (bL vs (bH r c)) with
   |false=>
    simp only [Bool.not_false,aL];rw [hr,F.dy.bg];have:F8 n (ee D) r vs upto=false:=all_false hv (by rw [fh hu,hcv];rfl);rw [this] at hK;exact hK h5 (Xn.trans x5)
   |true=>
    simp only [Bool.not_true,aK,aE hi A3,dr];exact hn _ _ ⟨Xn.trans x5,e0,e1,e2,e3,iJ,l9,rfl,lE hv ht (by rw [hcv,Bool.or_true])⟩
  ·simp only [eR hu,aK,aE hi A3,dr];exact hn _ _ ⟨x2,e0,e1,e2,e3,iJ,l9,rfl,lE hv ht (by rw [eR hu];rfl)⟩
 ·rintro e h' ⟨x1,e0,e1,e2,e3,iJ,l9,uq,ht⟩ K' hx;rw [jD (dK _)] at ht;rw [F.dy.aP];simp only [l9,uq,aO,aR];rw [hx,F.dy.aC];have:F8 n (ee D) r vs upto=true:=ht;rw [this] at hK;exact hK h' x1
structure Xo (σ:Type) (KX:σ->Heap->Prop) (uG:σ->cc->Option (Nat×List Bool)) (yS:List Int->σ->σ) (S B n lo base k:Nat) (r:aI) (g:FuncId) (ga gb:List AV) (V0:Nat):Prop where
 n1:1<=n
 sK:n<=64
 sb:S<base
 st:∀ s h,KX s h->h.get S=sC [I6 (n:Int),.map B]/\ei (uG s) h B lo/\CQ n (uG s) r
 gG:∀ s h h',KX s h->base<=h.next->(∀ b,b<h.next->b≠V0->h'.get b=h.get b)->h.next<=h'.next->KX s h'
 run:∀ s h vs K,KX s h->base<=V0->V0<h.next->h.get V0=sC (vs.map iv)->vs.length=k->jN n vs=true ->
  (∀ h',KX (yS vs s) h'->(∀ b,base<=b->b<h.next->h'.get b=h.get b)->h.next<=h'.next->K (.ret bT) h'=true)->Sem TP g (ga++([.slice V0 0 vs.length 1]++gb)) h K
def lH{σ:Type}(uG:σ->cc->Option (Nat×List Bool))(n:Nat)(r:aI)(v:Nat)(go:List Int->σ->List Int×σ)(acc:List Int×σ)(x:Nat):List Int×σ:=
 if F8 n (ee (uG acc.2)) r (acc.1.set v (x:Int)) (v:Int)=true then go (acc.1.set v (x:Int)) acc.2 else (acc.1.set v (x:Int),acc.2)
def iV{σ:Type}(uG:σ->cc->Option (Nat×List Bool))(yS:List Int->σ->σ)(n:Nat)(r:aI):Nat->Nat->List Int->σ->List Int×σ
 |0,_,vs,s=>(vs,yS vs s)
 |m+1,v,vs,s=>(List.range n).foldl (lH uG n r v (iV uG yS n r m (v+1))) (vs,s)
theorem nJ(h:jN n vs=true)(v:Nat){x:Nat}(hx:x<n):jN n (vs.set v (x:Int))=true:=by
 unfold jN at h ⊢;rw [List.all_eq_true] at h ⊢;intro y hy;rcases mem_or_eq_of_mem_set hy with hy|rfl
 ·exact h y hy
 ·simp;omega
theorem iK{α β:Type}{P:α->Prop}{f:α->β->α}:∀ {l:List β} {a:α},P a->(∀ a b,b ∈ l->P a->P (f a b))->P (l.foldl f a)
 |[],a,h,_=>h
 |b :: l,a,h,hf=>iK (l:=l) (hf a b mem_cons_self h) fun a c hc=>hf a c (mem_cons_of_mem _ hc)
theorem OY{σ:Type}{uG:σ->cc->Option (Nat×List Bool)}{yS:List Int->σ->σ}{n:Nat}{r:aI}{k:Nat}:∀ (m v:Nat) (vs:List Int) (s:σ),vs.length=k->jN n vs=true->(iV uG yS n r m v vs s).1.length=k/\jN n (iV uG yS n r m v vs s).1=true
 |0,v,vs,s,h1,h2=>⟨h1,h2⟩
 |m+1,v,vs,s,h1,h2=>by
  refine iK (P:=fun (a:List Int×σ)=>a.1.length=k/\jN n a.1=true) ⟨h1,h2⟩ fun a x hx ha=>?_;have YI:=mem_range.1 hx;have h3:(a.1.set v (x:Int)).length=k:=by rw [length_set];exact ha.1
  have h4:=nJ ha.2 v YI;unfold lH;split
  ·exact OY m (v+1) _ _ h3 h4
  ·exact ⟨h3,h4⟩
structure Cells (S n k:Nat) (N0 N1 N2 N4 N5 N6 V base:Nat) (i0:Int) (r:aI) (hd:Sl Int) (cs:Sl (Sl Int)) (ls:Sl Int) (g:FuncId) (ga gb:List AV) (h:Heap):Prop where
 h0:h.get N0=sC [.ptr S 0]
 h1:h.get N1=sC (bZ i0 r k (dH hd) (kM cs) (dH ls))
 h2:h.get N2=sC [.func g ga gb]
 h4:h.get N4=sC [.slice V 0 k 1]
 h5:h.get N5=sC [.func 157 [] [.ptr N1 0,.ptr N0 0,.ptr N4 0]]
 h6:h.get N6=sC [.func 159 [] [.ptr N1 0,.ptr N2 0,.ptr N4 0,.ptr N0 0,.ptr N5 0,.ptr N6 0]]
 lo:base<=N0/\base<=N1/\base<=N2/\base<=N4/\base<=N5/\base<=N6/\base<=V
 hi:N0<h.next/\N1<h.next/\N2<h.next/\N4<h.next/\N5<h.next/\N6<h.next/\V<h.next
 ne:N0≠V/\N1≠V/\N2≠V/\N4≠V/\N5≠V/\N6≠V
theorem Cells.gG{N2 N5 N6:Nat}{r:aI}{hd:Sl Int}{cs:Sl (Sl Int)}{ls:Sl Int}(c:Cells S n k N0 N1 N2 N4 N5 N6 V base i0 r hd cs ls g ga gb h)(hb:∀ b,base<=b->b<h.next->b≠V->h'.get b=h.get b)(hn:h.next<=h'.next) :
  Cells S n k N0 N1 N2 N4 N5 N6 V base i0 r hd cs ls g ga gb h':=by
 obtain ⟨h0,h1,h2,h4,h5,h6,⟨l0,l1,l2,l4,l5,l6,lv⟩,⟨i0',i1,i2,i4,i5,i6,iv'⟩,⟨n0,n1,n2,n4,n5,n6⟩⟩:=c
 exact ⟨by rw [hb _ l0 i0' n0];exact h0,by rw [hb _ l1 i1 n1];exact h1,by rw [hb _ l2 i2 n2];exact h2,by rw [hb _ l4 i4 n4];exact h4,by rw [hb _ l5 i5 n5];exact h5,by rw [hb _ l6 i6 n6];exact h6,
  ⟨l0,l1,l2,l4,l5,l6,lv⟩,⟨by omega,by omega,by omega,by omega,by omega,by omega,by omega⟩,⟨n0,n1,n2,n4,n5,n6⟩⟩
theorem UT{KX:σ->Heap->Prop}{uG:σ->cc->Option (Nat×List Bool)}{yS:List Int->σ->σ}{lo:Nat}{r:aI}(d:Xo σ KX uG yS S B n lo base k r g ga gb V)
  {N2 N5 N6:Nat} {hd:Sl Int} {cs:Sl (Sl Int)} {ls:Sl Int} (hf:r.k8) (hk:k=(varsOf r).length) (Iy:k<=12) (hcs:cs.l.map Sl.l=r.body.l.map (fun c=>k9 (varsOf r) c.args.l)) (RF:ls.l=r.body.l.map (fun c=>jJ (placesOf (varsOf r) c.args.l))) :
  ∀ (m v:Nat),v+m=k->∀ (vs:List Int) (s:σ) (h:Heap) (K:Out->Heap->Bool),KX s h->base<=h.next->Cells S n k N0 N1 N2 N4 N5 N6 V base i0 r hd cs ls g ga gb h->h.get V=sC (vs.map iv)->vs.length=k->jN n vs=true ->
   (∀ h',KX (iV uG yS n r m v vs s).2 h'->h'.get V=sC ((iV uG yS n r m v vs s).1.map iv)->(∀ b,base<=b->b<h.next->b≠V->h'.get b=h.get b)->h.next<=h'.next->K (.ret bT) h'=true) ->
   Sem TP 159 [I6 (v:Int),.ptr N1 0,.ptr N2 0,.ptr N4 0,.ptr N0 0,.ptr N5 0,.ptr N6 0] h K:=by
 intro m
 induction m with
 |zero=>
  intro v hv vs s h K ha QO hc hV BU Gv hK;have h1:=hc.h1;simp only [bZ] at h1;refine F.pN ?_;rw [F.qz];simp only [aO,aj h1,cy,fh (by omega:(v:Int)=(k:Int)),aj hc.h2,aj hc.h4,iy];rw [<- BU];refine af (d.run s h vs _ ha hc.lo.2.2.2.2.2.2 hc.hi.2.2.2.2.2.2 hV BU Gv fun h' a1 a2 a3=>?_);simp only [aO];exact hK h' a1 (by rw [a2 V hc.lo.2.2.2.2.2.2 hc.hi.2.2.2.2.2.2];exact hV) (fun b b1 b2 _=>a2 b b1 b2) a3
 |succ m ih=>
  intro v hv vs s h K ha QO hc hV BU Gv hK;have h1:=hc.h1;simp only [bZ] at h1;have hS:=(d.st s h ha).1;have sK:=d.sK;refine F.pN ?_;rw [F.qz];simp only [aO,aj h1,cy,eR (by omega:¬ (v:Int)=(k:Int)),aj hc.h0,cM,aj hS]
  refine aB 0 n (zero_le _) (fun x e h'=>∃ acc:List Int×σ,acc=(List.range x).foldl (lH uG n r v (iV uG yS n r m (v+1))) (vs,s)/\KX acc.2 h'/\h'.get V=sC (acc.1.map iv)/\acc.1.length=k/\jN n acc.1=true /\
   (∀ b,base<=b->b<h.next->b≠V->h'.get b=h.get b)/\h.next<=h'.next/\e 0=I6 (v:Int)/\e 1 = .ptr N1 0/\e 2 = .ptr N2 0/\e 3 = .ptr N4 0/\e 4 = .ptr N0 0/\e 5 = .ptr N5 0/\e 6 = .ptr N6 0/\e 20=I6 (n:Int)/\e 21=I6 (x:Int))
   ⟨(vs,s),rfl,ha,hV,BU,Gv,fun _ _ _ _=>rfl,dK _,rfl,rfl,rfl,rfl,rfl,rfl,rfl,rfl,rfl⟩ ?_ ?_
  ·rintro x e h' _ hx ⟨acc,aaH,qa,qV,ql,qin,qf,qn,e0,e1,e2,e3,e4,e5,e6,MK,Gx⟩ K' hn gl hr hp
   have gw:(List.range (x+1)).foldl (lH uG n r v (iV uG yS n r m (v+1))) (vs,s)=lH uG n r v (iV uG yS n r m (v+1)) acc x:=by
    rw [range_succ,foldl_append,<- aaH];rfl
   unfold lH at gw;have Jw:=hc.gG qf qn;have jL:=tE (v:=(x:Int)) qV (i:=v) (by omega);have hvk:v<k:=by omega
   rw [F.ey.aP];simp only [e0,e3,e5,MK,Gx,aO,aU hx,aj Jw.h4,nh hvk,jL];have qn0:(h'.set V (.cells ((acc.1.set v (x:Int)).map iv))).next=h'.next:=Heap.aT _ _ _
   have qg:∀ b,b≠V->(h'.set V (.cells ((acc.1.set v (x:Int)).map iv))).get b=h'.get b:=fun b hb=>by rw [Heap.aG,if_neg hb]
   have qV2:(h'.set V (.cells ((acc.1.set v (x:Int)).map iv))).get V=sC ((acc.1.set v (x:Int)).map iv):=by rw [Heap.aG,if_pos rfl]
   generalize (h'.set V (.cells ((acc.1.set v (x:Int)).map iv)))=H at qn0 qg qV2 ⊢;have cH:=Jw.gG (h':=H) (fun b _ _ hb=>qg b hb) (by omega);have lV:=hc.lo.2.2.2.2.2.2;have aH:=d.gG _ _ H qa (by omega) (fun b _ hb=>qg b hb) (by omega);obtain ⟨sS,sD,sA⟩:=d.st _ _ aH;have WG:(acc.1.set v (x:Int)).length=k:=by rw [length_set];exact ql
   have vp:=nJ qin v hx;generalize (acc.1.set v (x:Int))=vs2 at gw qV2 WG vp;have c4:=cH.h4;rw [<- WG] at c4;simp only [aj cH.h5,aO,iy,nil_append,cons_append];refine af (OX (n:=n) (B:=B) (lo:=lo) (S:=S) hf hcs RF sS sD (by have:=d.sb;omega) cH.h0 cH.hi.1 cH.h1 cH.hi.2.1 c4 cH.hi.2.2.2.1 qV2 cH.hi.2.2.2.2.2.2 (by omega) vp d.n1 sA fun h3 x3=>?_);have c3:=cH.gG (fun b _ hb _=>x3.get b hb) x3.next
   have a3:=d.gG _ _ h3 aH (by omega) (fun b hb _=>x3.get b hb) x3.next
   have v3:h3.get V=sC (vs2.map iv):=by rw [x3.get V cH.hi.2.2.2.2.2.2];exact qV2
   have n3:=x3.next
   have f3:∀ b,base<=b->b<h.next->b≠V->h3.get b=h.get b:=fun b b1 b2 b3=>by rw [x3.get b (by omega),qg b b3,qf b b1 b2 b3]
   simp only [aO]
   cases qQ:F8 n (ee (uG acc.2)) r vs2 (v:Int) with
   |false=>
    rw [qQ,if_neg (by simp)] at gw;simp only [aK,aE hx (show n<=cw by unfold cw;omega),dr];exact hn _ _ ⟨_,gw.symm,a3,v3,WG,vp,f3,by omega,e0,e1,e2,e3,e4,e5,e6,MK,rfl⟩
   |true=>
    rw [qQ,if_pos rfl] at gw;have KG:=aE (i:=v) (n:=13) (by omega) (by unfold cw;omega);simp only [aL,e6,aj c3.h6,aO,KG,iy,nil_append];refine af (ih (v+1) (by omega) vs2 acc.2 h3 _ a3 (by omega) c3 v3 WG vp fun h4 a4 v4 f4 n4=>?_);obtain ⟨w1,w2⟩:=OY (uG:=uG) (yS:=yS) (r:=r) (k:=k) m (v+1) vs2 acc.2 WG vp;simp only [aO,Bool.not_true,aE hx (show n<=cw by unfold cw;omega)];exact hn _ _ ⟨_,gw.symm,a4,v4,w1,w2,fun b b1 b2 b3=>by rw [f4 b b1 (by omega) b3,f3 b b1 b2 b3],by omega,e0,e1,e2,e3,e4,e5,e6,MK,rfl⟩
  ·rintro e h' ⟨acc,aaH,qa,qV,ql,qin,qf,qn,e0,e1,e2,e3,e4,e5,e6,MK,Gx⟩ K' gl;rw [F.ey.aP];simp only [MK,Gx,aO,aR];rw [gl,F.ey.aC];have:iV uG yS n r (m+1) v vs s=acc:=aaH.symm;rw [this] at hK;exact hK h' qa qV qf qn
def wU{σ:Type}(uG:σ->cc->Option (Nat×List Bool))(yS:List Int->σ->σ)(n:Nat)(r:aI)(k:Nat)(s:σ):σ:=
 if F8 n (ee (uG s)) r (replicate k 0) (-1)=true then (iV uG yS n r k 0 (replicate k 0) s).2 else s
theorem zS(i:Int)(r:aI)(n:Int)(hd:Sl Int)(cs:Sl (Sl Int))(ls:Sl Int):aW (bZ i r n (dH hd) (kM cs) (dH ls))=true:=by
 unfold bZ;simp only [aW,fS,Bool.and_true];rfl
theorem wo(h:1<=n)(k:Nat):jN n (replicate k (0:Int))=true:=by
 unfold jN;rw [List.all_eq_true];intro x hx;rw [(mem_replicate.1 hx).2];simp;omega
theorem OZ{KX:Nat->σ->Heap->Prop}{uG:σ->cc->Option (Nat×List Bool)}{yS:List Int->σ->σ}{lo:Nat}{r:aI}(d:∀ V,h.next<=V->Xo σ (KX V) uG yS S B n lo base k r g ga gb V)
  {hd:Sl Int} {cs:Sl (Sl Int)} {ls:Sl Int} (hf:r.k8) (hk:k=(varsOf r).length) (Iy:k<=12) (hcs:cs.l.map Sl.l=r.body.l.map (fun c=>k9 (varsOf r) c.args.l)) (RF:ls.l=r.body.l.map (fun c=>jJ (placesOf (varsOf r) c.args.l)))
  {s:σ} (ha:∀ V,h.next<=V->KX V s h) (QO:base<=h.next)
  (hK:∀ h' V,h.next<=V->KX V (wU uG yS n r k s) h'->(∀ b,base<=b->b<h.next->h'.get b=h.get b)->h.next<=h'.next->K (.ret (.tuple [])) h'=true) :
  Sem TP 118 [.ptr S 0,.agg (bZ i0 r k (dH hd) (kM cs) (dH ls)),.func g ga gb] h K:=by
 refine F.yq ?_;rw [F.Am];simp only [pM (x:=.ptr S 0) rfl,cD (zS i0 r k hd cs ls),pM (x:=.func g ga gb) rfl,dr,Heap.aD]
 have g0:(((h.alloc (.cells [.ptr S 0])).alloc (.cells (bZ i0 r k (dH hd) (kM cs) (dH ls)))).alloc (.cells [.func g ga gb])).get h.next=sC [.ptr S 0]:=by
  rw [Heap.aN,Heap.aD,Heap.aD,if_neg (by omega),Heap.aN,Heap.aD,if_neg (by omega)];exact ak _ _
 have g1:(((h.alloc (.cells [.ptr S 0])).alloc (.cells (bZ i0 r k (dH hd) (kM cs) (dH ls)))).alloc (.cells [.func g ga gb])).get (h.next+1)=sC (bZ i0 r k (dH hd) (kM cs) (dH ls)):=by
  rw [Heap.aN,Heap.aD,Heap.aD,if_neg (by omega)];exact ak _ _
 have g2:(((h.alloc (.cells [.ptr S 0])).alloc (.cells (bZ i0 r k (dH hd) (kM cs) (dH ls)))).alloc (.cells [.func g ga gb])).get (h.next+1+1)=sC [.func g ga gb]:=ak _ _;have gx:aV h (((h.alloc (.cells [.ptr S 0])).alloc (.cells (bZ i0 r k (dH hd) (kM cs) (dH ls)))).alloc (.cells [.func g ga gb])):=((aV.alloc _ _).trans (aV.alloc _ _)).trans (aV.alloc _ _);have gn:(((h.alloc (.cells [.ptr S 0])).alloc (.cells (bZ i0 r k (dH hd) (kM cs) (dH ls)))).alloc (.cells [.func g ga gb])).next=h.next+3:=rfl
 generalize (((h.alloc (.cells [.ptr S 0])).alloc (.cells (bZ i0 r k (dH hd) (kM cs) (dH ls)))).alloc (.cells [.func g ga gb]))=H3 at g0 g1 g2 gx gn ⊢;have g1':=g1;simp only [bZ] at g1';simp only [aO,aj g1',zO (show k<=1000000 by omega)];have v6:=ak H3 (.cells ((replicate k (0:Int)).map iv));have x6:=aV.alloc H3 (.cells ((replicate k (0:Int)).map iv));have n6:(H3.alloc (.cells ((replicate k (0:Int)).map iv))).next=H3.next+1:=Heap.aD _ _
 generalize (H3.alloc (.cells ((replicate k (0:Int)).map iv)))=H6 at v6 x6 n6 ⊢;obtain ⟨h7,s7,a7,o7,n7⟩:=oM (h:=H6) (z:=.ai) (v:=.slice H3.next 0 k 1) rfl rfl;obtain ⟨h8,s8,a8,o8,n8⟩:=oM (h:=h7) (z:=.rP) (v:=.func 157 [] [.ptr (h.next+1) 0,.ptr h.next 0,.ptr H6.next 0]) rfl rfl;obtain ⟨h9,s9,a9,o9,n9⟩:=oM (h:=h8) (z:=.rP) (v:=.func 159 [] [.ptr (h.next+1) 0,.ptr (h.next+1+1) 0,.ptr H6.next 0,.ptr h.next 0,.ptr h7.next 0,.ptr h8.next 0]) rfl rfl;simp only [s7,s8,s9,dr];have low:∀ b,b<H6.next->h9.get b=H6.get b:=fun b hb=>by rw [o9 b (by omega),o8 b (by omega),o7 b (by omega)]
 have c:Cells S n k h.next (h.next+1) (h.next+1+1) H6.next h7.next h8.next H3.next base i0 r hd cs ls g ga gb h9:=
  ⟨by rw [low _ (by omega),x6.get _ (by omega)];exact g0,by rw [low _ (by omega),x6.get _ (by omega)];exact g1,by rw [low _ (by omega),x6.get _ (by omega)];exact g2,
   by rw [o9 _ (by omega),o8 _ (by omega)];exact a7,by rw [o9 _ (by omega)];exact a8,a9,
   ⟨by omega,by omega,by omega,by omega,by omega,by omega,by omega⟩,⟨by omega,by omega,by omega,by omega,by omega,by omega,by omega⟩,⟨by omega,by omega,by omega,by omega,by omega,by omega⟩⟩
 have x9:aV h h9:=⟨by omega,fun b hb=>by rw [low b (by omega),x6.get b (by omega),gx.get b hb]⟩
 have v9:h9.get H3.next=sC ((replicate k (0:Int)).map iv):=by rw [low _ (by omega)];exact v6
 have hV3:h.next<=H3.next:=gx.next
 replace d:=d H3.next hV3
 replace ha:=ha H3.next hV3
 have a9':=d.gG _ _ h9 ha QO (fun b hb _=>x9.get b hb) x9.next
 have hl0:(replicate k (0:Int)).length=k:=length_replicate;have ad7:=wo d.n1 k;obtain ⟨sS,sD,sA⟩:=d.st _ _ a9';have c4:=c.h4;rw [<- hl0] at c4;generalize Gv:replicate k (0:Int)=vs0 at v9 hl0 ad7 c4;have heF:wU uG yS n r k s=if F8 n (ee (uG s)) r vs0 (-1)=true then (iV uG yS n r k 0 vs0 s).2 else s:=by unfold wU;rw [Gv]
 simp only [aO,aj c.h5,iy,nil_append,cons_append];refine af (OX (n:=n) (B:=B) (lo:=lo) (S:=S) hf hcs RF sS sD (by have:=d.sb;have:=x9.next;omega) c.h0 c.hi.1 c.h1 c.hi.2.1 c4 c.hi.2.2.2.1 v9 c.hi.2.2.2.2.2.2 (by omega) ad7 d.n1 sA fun h10 YG=>?_);have n10:=YG.next
 have c10:=c.gG (fun b _ hb _=>YG.get b hb) n10;have YF:=d.gG _ _ h10 a9' (by have:=x9.next;omega) (fun b hb _=>YG.get b hb) n10;have v10:h10.get H3.next=sC (vs0.map iv):=by rw [YG.get _ c.hi.2.2.2.2.2.2];exact v9
 simp only [aO]
 cases qQ:F8 n (ee (uG s)) r vs0 (-1) with
 |false=>
  rw [qQ,if_neg (by simp)] at heF;rw [heF] at hK;simp only [aK];exact hK h10 _ hV3 YF (fun b _ b2=>(x9.trans YG).get b b2) (x9.trans YG).next
 |true=>
  rw [qQ,if_pos rfl] at heF;rw [heF] at hK;simp only [aL,aO,aj c10.h6,iy,nil_append];refine af (UT d hf hk Iy hcs RF k 0 (by omega) vs0 s h10 _ YF (by have:=x9.next;omega) c10 v10 hl0 ad7 fun h11 Zp v11 f11 n11=>?_);simp only [aO];exact hK h11 _ hV3 Zp (fun b b1 b2=>by rw [f11 b b1 (by have:=x9.next;omega) (by omega),(x9.trans YG).get b b2]) (by have:=x9.next;omega)
theorem Iz{KX:σ->Heap->Prop}{uG:σ->cc->Option (Nat×List Bool)}{yS:List Int->σ->σ}{lo:Nat}{r:aI}(d:∀ V,base<=V->Xo σ KX uG yS S B n lo base k r g ga gb V)
  {hd:Sl Int} {cs:Sl (Sl Int)} {ls:Sl Int} (hf:r.k8) (hk:k=(varsOf r).length) (Iy:k<=12) (hcs:cs.l.map Sl.l=r.body.l.map (fun c=>k9 (varsOf r) c.args.l)) (RF:ls.l=r.body.l.map (fun c=>jJ (placesOf (varsOf r) c.args.l)))
  {s:σ} (ha:KX s h) (QO:base<=h.next)
  (hK:∀ h',KX (wU uG yS n r k s) h'->(∀ b,base<=b->b<h.next->h'.get b=h.get b)->h.next<=h'.next->K (.ret (.tuple [])) h'=true) :
  Sem TP 118 [.ptr S 0,.agg (bZ i0 r k (dH hd) (kM cs) (dH ls)),.func g ga gb] h K:=
 OZ (KX:=fun _=>KX) (fun V hV=>d V (by omega)) hf hk Iy hcs RF (fun _ _=>ha) QO fun h' _ _=>hK h'
abbrev DB:=cc->Option (Nat×List Bool)
def fV(D D0:DB):Prop:=∀ nm,(D nm).map (fun p=>(p.1,p.2.length))=(D0 nm).map (fun p=>(p.1,p.2.length))
theorem fV.get{D D0:DB}(h:fV D D0){p0:Nat×List Bool}(h0:D0 nm=some p0):∃ p,D nm=some p/\p.1=p0.1/\p.2.length=p0.2.length:=by
 have:=h nm;rw [h0] at this
 cases hd:D nm with
 |none=>rw [hd] at this;cases this
 |some p=>
  rw [hd] at this;simp only [map_some,Option.some.injEq,Prod.mk.injEq] at this;exact ⟨p,rfl,this.1,this.2⟩
theorem fV.back{D D0:DB}(h:fV D D0)(hp:D nm=some p):∃ p0,D0 nm=some p0/\p.1=p0.1/\p.2.length=p0.2.length:=by
 have:=h nm;rw [hp] at this
 cases hd:D0 nm with
 |none=>rw [hd] at this;cases this
 |some p0=>
  rw [hd] at this;simp only [map_some,Option.some.injEq,Prod.mk.injEq] at this;exact ⟨p0,rfl,this.1,this.2⟩
theorem fV.set{D D0:DB}(h:fV D D0)(hp:D nm=some p)(hd:d.length=p.2.length):fV (nG D nm p.1 d) D0:=fun j=>by
 rw [<- h j];unfold nG;by_cases e:j=nm
 ·rw [if_pos e,e,hp,map_some,map_some,hd]
 ·rw [if_neg e]
def xO(n:Nat)(r:aI)(vs:List Int)(s:DB×Bool):DB×Bool:=
 match s.1 r.name with
 |none=>s
 |some p=>if p.2.getD (mg n (bL vs (placesOf (varsOf r) r.args.l))) false=true then s else (nG s.1 r.name p.1 (p.2.set (mg n (bL vs (placesOf (varsOf r) r.args.l))) true),true)
structure tL (S B n lo base P3 P5 P6 PL:Nat) (D0:DB) (r:aI) (i0:Int) (k:Nat) (hd:Sl Int) (cs:Sl (Sl Int)) (ls:Sl Int) (ng:FuncId) (na nb:List AV) (h0:Heap) (s:DB×Bool) (h:Heap):Prop where
 hS:h.get S=sC [I6 (n:Int),.map B]
 hD:ei s.1 h B lo
 UU:fV s.1 D0
 h3:h.get P3=sC [.ptr S 0]
 h5:h.get P5=sC [.func ng na nb]
 h6:h.get P6=sC [.bool s.2]
 hL:h.get PL=sC (bZ i0 r k (dH hd) (kM cs) (dH ls))
 lt:base<=h.next
 jm:∀ b,b<base->b≠P6->(∀ nm p,D0 nm=some p->b≠p.1)->h.get b=h0.get b
structure Tv (S B n lo base P3 P5 P6 PL:Nat) (D0:DB) (r:aI) (k:Nat) (hd:Sl Int) (ng:FuncId) (na nb:List AV):Prop where
 n1:1<=n
 sK:n<=64
 low:S<base/\B<base/\P3<base/\P5<base/\P6<base/\PL<base
 rows:∀ nm p,D0 nm=some p->p.1<base/\p.1≠S/\p.1≠P3/\p.1≠P5/\p.1≠P6/\p.1≠PL
 six:P6≠S/\P6≠B/\P6≠P3/\P6≠P5/\P6≠PL
 ask:∀ D,fV D D0->CQ n D r
 head:n ^ r.args.l.length<=4096/\r.args.l.length<=12/\∃ p,D0 r.name=some p/\p.2.length=n ^ r.args.l.length
 hkk:k=(varsOf r).length
 hhd:hd.l=k9 (varsOf r) r.args.l
 note:∀ (i:Int) (r:aI) (k:Int) (hd:Sl Int) (cs:Sl (Sl Int)) (ls:Sl Int) (y:AV) (h:Heap) (K:Out->Heap->Bool),(∀ h',aV h h'->K (.ret (.tuple [])) h'=true)->Sem TP ng (na++([.agg (bZ i r k (dH hd) (kM cs) (dH ls)),y]++nb)) h K
theorem tL.gG{lo:Nat}{D0:DB}{r:aI}{hd:Sl Int}{cs:Sl (Sl Int)}{ls:Sl Int}{h0:Heap}(o:Tv S B n lo base P3 P5 P6 PL D0 r k hd ng na nb){s:DB×Bool}
  (a:tL S B n lo base P3 P5 P6 PL D0 r i0 k hd cs ls ng na nb h0 s h) (hb:∀ b,b<base->h'.get b=h.get b) (hn:h.next<=h'.next):tL S B n lo base P3 P5 P6 PL D0 r i0 k hd cs ls ng na nb h0 s h':=by
 obtain ⟨l1,l2,l3,l4,l5,l6⟩:=o.low;refine ⟨by rw [hb _ l1];exact a.hS,?_,a.UU,by rw [hb _ l3];exact a.h3,by rw [hb _ l4];exact a.h5,by rw [hb _ l5];exact a.h6,by rw [hb _ l6];exact a.hL,Nat.le_trans a.lt hn,fun b b1 b2 b3=>by rw [hb b b1];exact a.jm b b1 b2 b3⟩;obtain ⟨es,ck,m,e1,e2,e3⟩:=a.hD.ex;refine ⟨⟨es,ck,m,by rw [hb _ l2];exact e1,e2,e3⟩,fun nm p hp=>?_,a.hD.inj,Nat.lt_of_lt_of_le a.hD.lt hn⟩;obtain ⟨q1,q2,q3,q4⟩:=a.hD.nO nm p hp;obtain ⟨p0,r1,r2,_⟩:=a.UU.back hp;have:=(o.rows nm p0 r1).1;exact ⟨q1,Nat.lt_of_lt_of_le q2 hn,q3,by rw [hb _ (by omega)];exact q4⟩
theorem Xp{lo:Nat}{D0:DB}{r:aI}{hd:Sl Int}{cs:Sl (Sl Int)}{ls:Sl Int}{h0:Heap}(o:Tv S B n lo base P3 P5 P6 PL D0 r k hd ng na nb){s:DB×Bool}
  (a:tL S B n lo base P3 P5 P6 PL D0 r i0 k hd cs ls ng na nb h0 s h) (hVb:base<=V) (hVn:V<h.next) (hV:h.get V=sC (vs.map iv)) (BU:vs.length=k) (Gv:jN n vs=true)
  (hK:∀ h',tL S B n lo base P3 P5 P6 PL D0 r i0 k hd cs ls ng na nb h0 (xO n r vs s) h'->(∀ b,base<=b->b<h.next->h'.get b=h.get b)->h.next<=h'.next->K (.ret bT) h'=true) :
  Sem TP 146 ([]++([.slice V 0 vs.length 1]++[.ptr PL 0,.ptr P3 0,.ptr P6 0,.ptr P5 0])) h K:=by
 obtain ⟨l1,l2,l3,l4,l5,l6⟩:=o.low;obtain ⟨wm,J9,p0,Da,aiI⟩:=o.head;have hL:=a.hL;simp only [bZ] at hL;simp only [nil_append,cons_append];refine F.vg ?_;rw [F.v7];simp only [aO,aj hL];have sF:∀ p ∈ placesOf (varsOf r) r.args.l,p<vs.length:=by rw [BU,o.hkk];exact nI nH
 have nr:(placesOf (varsOf r) r.args.l).length=r.args.l.length:=by unfold placesOf;simp
 refine af (MN (ps:=placesOf (varsOf r) r.args.l) hV hVn rfl o.hhd sF (by rw [nr];omega) fun h3 t1 x3 t2=>?_);have lt0:=a.lt;have a3:=tL.gG o a (fun b hb=>x3.get b (by omega)) x3.next
 obtain ⟨p,hp,hpb,amm⟩:=a3.UU.get Da;have hL3:=a3.hL;simp only [bZ] at hL3;have ur:=mc vs (placesOf (varsOf r) r.args.l);have hin:=qO Gv sF;rw [<- ur];have Rl:xO n r vs s=if p.2.getD (mg n (bL vs (placesOf (varsOf r) r.args.l))) false=true then s else (nG s.1 r.name p.1 (p.2.set (mg n (bL vs (placesOf (varsOf r) r.args.l))) true),true):=by unfold xO;rw [hp]
 have uQ:mg n (bL vs (placesOf (varsOf r) r.args.l))<p.2.length:=by
  have:=pW hin;rw [ur,nr] at this;omega
 have oO:p.2[mg n (bL vs (placesOf (varsOf r) r.args.l))]?=some (p.2.getD (mg n (bL vs (placesOf (varsOf r) r.args.l))) false):=by rw [getD_eq_getElem?_getD,jQ uQ];rfl
 obtain ⟨b1,b2,b3,b4⟩:=a3.hD.nO r.name p hp;have Xq:∀ {K:Out->Heap->Bool},K (.ret (I6 ((mg n (bL vs (placesOf (varsOf r) r.args.l)):Nat):Int))) h3=true->Sem TP 101 [.ptr S 0,.slice h.next 0 (bL vs (placesOf (varsOf r) r.args.l)).length 1] h3 K:=fun hk=>E4 a3.hS o.n1 t1 (by rw [ur,nr];exact J9) (by rw [ur,nr];exact wm) hin hk;generalize mg n (bL vs (placesOf (varsOf r) r.args.l))=rk at Rl uQ oO Xq;simp only [aO,aj a3.h3,cM,aj a3.hS,aj hL3,a3.hD.look hp];refine af (Xq ?_);simp only [aO,nh uQ,CN b4 oO]
 cases hbv:p.2.getD rk false with
 |true=>
  rw [hbv,if_pos rfl] at Rl;simp only [Bool.not_true,aK];rw [Rl] at hK;exact hK h3 a3 (fun b _ b2=>x3.get b b2) x3.next
 |false=>
  rw [hbv,if_neg (by simp)] at Rl;simp only [Bool.not_false,aL,aj a3.h3,aO];refine af (Xq ?_);obtain ⟨w1,w2,w3,w4,w5,w6⟩:=o.rows r.name p0 Da;rw [<- hpb] at w1 w2 w3 w4 w5 w6;obtain ⟨y1,y2,y3,y4,y5⟩:=o.six;have mu:=a3.hD.set hp (d:=p.2.set rk true) (by simp);have st1:=vm (v:=true) b4 uQ;have g6:(h3.set p.1 (.cells ((p.2.set rk true).map bv))).get P6=sC [.bool s.2]:=by rw [Heap.aG,if_neg (Ne.symm w5)];exact a3.h6
  have US:aS 1 (.ptr P6 0) bT (h3.set p.1 (.cells ((p.2.set rk true).map bv)))=some ((h3.set p.1 (.cells ((p.2.set rk true).map bv))).set P6 (.cells [bT])):=by
   rw [cj (n:=1) g6 rfl rfl (by simp)];rfl
  have q:∀ b,b≠p.1->b≠P6->((h3.set p.1 (.cells ((p.2.set rk true).map bv))).set P6 (.cells [bT])).get b=h3.get b:=fun b hb1 hb2=>by rw [Heap.aG,if_neg hb2,Heap.aG,if_neg hb1]
  have q6:((h3.set p.1 (.cells ((p.2.set rk true).map bv))).set P6 (.cells [bT])).get P6=sC [bT]:=by rw [Heap.aG,if_pos rfl]
  have qn:((h3.set p.1 (.cells ((p.2.set rk true).map bv))).set P6 (.cells [bT])).next=h3.next:=by rw [Heap.aT,Heap.aT]
  have hD':ei (nG s.1 r.name p.1 (p.2.set rk true)) ((h3.set p.1 (.cells ((p.2.set rk true).map bv))).set P6 (.cells [bT])) B lo:=by
   obtain ⟨es,ck,m,e1,e2,e3⟩:=mu.ex;refine ⟨⟨es,ck,m,by rw [Heap.aG,if_neg (Ne.symm y2)];exact e1,e2,e3⟩,fun nm p' xb=>?_,mu.inj,by rw [Heap.aT];exact mu.lt⟩;obtain ⟨c1,c2,c3,c4⟩:=mu.nO nm p' xb;obtain ⟨p0',d1,d2,_⟩:=(a3.UU.set hp (d:=p.2.set rk true) (by simp)).back xb;have:=(o.rows nm p0' d1).2.2.2.2.1;exact ⟨c1,by rw [Heap.aT];exact c2,c3,by rw [Heap.aG,if_neg (by rw [d2];exact this)];exact c4⟩
  simp only [aO,nh uQ,st1,US];generalize ((h3.set p.1 (.cells ((p.2.set rk true).map bv))).set P6 (.cells [bT]))=H at q q6 qn hD' ⊢
  have aH:tL S B n lo base P3 P5 P6 PL D0 r i0 k hd cs ls ng na nb h0 (xO n r vs s) H:=by
   rw [Rl];exact ⟨by rw [q S (Ne.symm w2) (Ne.symm y1)];exact a3.hS,hD',a3.UU.set hp (by simp),by rw [q P3 (Ne.symm w3) (Ne.symm y3)];exact a3.h3,by rw [q P5 (Ne.symm w4) (Ne.symm y4)];exact a3.h5,q6,by rw [q PL (Ne.symm w6) (Ne.symm y5)];exact a3.hL,by rw [qn];exact a3.lt,fun b b1 b2 b3=>by rw [q b (by rw [hpb];exact b3 _ _ Da) b2];exact a3.jm b b1 b2 b3⟩
  have hLH:=aH.hL;simp only [bZ] at hLH;simp only [aj aH.h5,aj hLH,Tt,aO,iy];refine af (o.note i0 r k hd cs ls _ H _ fun h9 x9=>?_);simp only [aO];have ltH:=aH.lt;have n9:=x9.next
  exact hK h9 (tL.gG o aH (fun b hb=>x9.get b (by omega)) n9) (fun b b1 b2=>by have:=x3.next;rw [x9.get b (by omega),q b (by omega) (by omega),x3.get b b2]) (by have:=x3.next;omega)
theorem RI{lo:Nat}{D0:DB}{r:aI}{hd:Sl Int}{cs:Sl (Sl Int)}{ls:Sl Int}{h0:Heap}(o:Tv S B n lo base P3 P5 P6 PL D0 r k hd ng na nb)(V0:Nat)(hV0:base<=V0) :
  Xo (DB×Bool) (tL S B n lo base P3 P5 P6 PL D0 r i0 k hd cs ls ng na nb h0) (fun s=>s.1) (xO n r) S B n lo base k r 146 [] [.ptr PL 0,.ptr P3 0,.ptr P6 0,.ptr P5 0] V0:=
 ⟨o.n1,o.sK,o.low.1,fun s h a=>⟨a.hS,a.hD,o.ask _ a.UU⟩,fun s h h' a QO hb hn=>tL.gG o a (fun b gN=>hb b (by omega) (by omega)) hn,fun s h vs K a h1 h2 h3 h4 h5 hK=>Xp o a h1 h2 h3 h4 h5 hK⟩
theorem IA{σ:Type}{uG:σ->DB}{yS:List Int->σ->σ}{n:Nat}{r:aI}{k:Nat}{Q:σ->Prop}(hQ:∀ vs s,vs.length=k->jN n vs=true->Q s->Q (yS vs s)):∀ (m v:Nat) (vs:List Int) (s:σ),vs.length=k->jN n vs=true->Q s ->
  ((iV uG yS n r m v vs s).1.length=k/\jN n (iV uG yS n r m v vs s).1=true)/\Q (iV uG yS n r m v vs s).2
 |0,v,vs,s,h1,h2,h3=>⟨⟨h1,h2⟩,hQ vs s h1 h2 h3⟩
 |m+1,v,vs,s,h1,h2,h3=>by
  refine iK (P:=fun (a:List Int×σ)=>(a.1.length=k/\jN n a.1=true)/\Q a.2) ⟨⟨h1,h2⟩,h3⟩ fun a x hx ha=>?_;have YI:=mem_range.1 hx;have h3:(a.1.set v (x:Int)).length=k:=by rw [length_set];exact ha.1.1
  have h4:=nJ ha.1.2 v YI;unfold lH;split
  ·exact IA hQ m (v+1) _ _ h3 h4 ha.2
  ·exact ⟨⟨h3,h4⟩,ha.2⟩
theorem wq{uG:σ->DB}{yS:List Int->σ->σ}{r:aI}{Q:σ->Prop}(n1:1<=n)(hQ:∀ vs s,vs.length=k->jN n vs=true->Q s->Q (yS vs s)){s:σ}(hs:Q s):Q (wU uG yS n r k s):=by
 unfold wU;split
 ·exact (IA hQ k 0 _ _ length_replicate (wo n1 k) hs).2
 ·exact hs
structure CS where
 i:Int
 r:aI
 hd:Sl Int
 cs:Sl (Sl Int)
 ls:Sl Int
def yT(p:CS):List AV:=bZ p.i p.r (varsOf p.r).length (dH p.hd) (kM p.cs) (dH p.ls)
theorem KY(p:CS):(yT p).length=8:=rfl
theorem KZ(p:CS):aW (yT p)=true:=zS _ _ _ _ _ _
structure CS.ok (p:CS):Prop where
 k8:p.r.k8
 Kc:(varsOf p.r).length<=12
 hd:p.hd.l=k9 (varsOf p.r) p.r.args.l
 cs:p.cs.l.map Sl.l=p.r.body.l.map (fun c=>k9 (varsOf p.r) c.args.l)
 ls:p.ls.l=p.r.body.l.map (fun c=>jJ (placesOf (varsOf p.r) c.args.l))
def nY(n:Nat)(r:aI)(s:DB×Bool):DB×Bool:=wU (fun s=>s.1) (xO n r) n r (varsOf r).length s
def pY(n:Nat)(rs:List aI)(s:DB×Bool):DB×Bool:=rs.foldl (fun s r=>nY n r s) s
theorem RJ{rs:List aI}{i:Nat}{r:aI}(hr:rs[i]?=some r)(s:DB×Bool):pY n (rs.take (i+1)) s=nY n r (pY n (rs.take i) s):=by
 unfold pY;rw [take_add_one,hr];simp
inductive Reach (n:Nat) (rs:List aI) (D0:DB):DB->Prop
 |refl:Reach n rs D0 D0
 |step (D:DB):Reach n rs D0 D->Reach n rs D0 (pY n rs (D,false)).1
theorem Gz:∀ (l:List Bool) (i:Nat),l[i]?=some false->(l.set i true).count false<l.count false
 |[],i,h=>by simp at h
 |b :: l,0,h=>by
  simp only [getElem?_cons_zero,Option.some.injEq] at h;subst h;simp
 |b :: l,i+1,h=>by
  rw [getElem?_cons_succ] at h;have:=Gz l i h;rw [set_cons_succ,count_cons,count_cons];omega
def ad8(D:DB)(nm:cc):Nat:=match D nm with|none=>0|some p=>p.2.count false
def IB(names:List cc)(D:DB):Nat:=(names.map (ad8 D)).sum
structure O0 (names:List cc) (D0 D:DB) (s:DB×Bool):Prop where
 UU:fV s.1 D0
 le:IB names s.1<=IB names D
 lt:s.2=true->IB names s.1<IB names D
 same:s.2=false->s.1=D
theorem Xr{names:List cc}{D0 D:DB}{r:aI}(hin:r.name ∈ names)(hk:k=(varsOf r).length)(hh:∃ p,D0 r.name=some p/\p.2.length=n ^ r.args.l.length){s:DB×Bool}(BU:vs.length=k)(Gv:jN n vs=true)(q:O0 names D0 D s):O0 names D0 D (xO n r vs s):=by
 obtain ⟨p0,Da,hl0⟩:=hh;obtain ⟨p,hp,_,hl⟩:=q.UU.get Da;have sF:∀ p ∈ placesOf (varsOf r) r.args.l,p<vs.length:=by rw [BU,hk];exact nI nH
 have nr:(placesOf (varsOf r) r.args.l).length=r.args.l.length:=by unfold placesOf;simp
 have uQ:mg n (bL vs (placesOf (varsOf r) r.args.l))<p.2.length:=by
  have:=pW (qO Gv sF);rw [mc,nr] at this;omega
 have Rl:xO n r vs s=if p.2.getD (mg n (bL vs (placesOf (varsOf r) r.args.l))) false=true then s else (nG s.1 r.name p.1 (p.2.set (mg n (bL vs (placesOf (varsOf r) r.args.l))) true),true):=by unfold xO;rw [hp]
 rw [Rl];generalize mg n (bL vs (placesOf (varsOf r) r.args.l))=rk at uQ ⊢;split
 ·exact q
 ·rename_i hb
  have oO:p.2[rk]?=some false:=by
   rw [getD_eq_getElem?_getD,jQ uQ] at hb;rw [jQ uQ];simp only [getD_some,not_eq_true] at hb;rw [hb]
  have hlt:IB names (nG s.1 r.name p.1 (p.2.set rk true))<IB names s.1:=by
   refine fJ.QB (fun nm=>?_) (t:=r.name) ?_ hin
   ·unfold ad8 nG;by_cases e:nm=r.name
    ·subst e;rw [if_pos rfl,hp];exact Nat.le_of_lt (Gz _ _ oO)
    ·rw [if_neg e];exact dK _
   ·unfold ad8 nG;rw [if_pos rfl,hp];exact Gz _ _ oO
  have:=q.le;exact ⟨q.UU.set hp (by simp),by show IB names (nG s.1 r.name p.1 (p.2.set rk true))<=_;omega,fun _=>by show IB names (nG s.1 r.name p.1 (p.2.set rk true))<_;omega,fun h=>by cases h⟩
theorem O1{names:List cc}{D0 D:DB}{r:aI}(n1:1<=n)(hin:r.name ∈ names)(hh:∃ p,D0 r.name=some p/\p.2.length=n ^ r.args.l.length){s:DB×Bool}(q:O0 names D0 D s):O0 names D0 D (nY n r s):=
 wq n1 (fun vs s h1 h2 h3=>Xr hin rfl hh h1 h2 h3) q
theorem E5(nm:cc)(xs:List cc):qB nm xs=(fG nm&&pX xs):=by
 unfold qB pX;rw [Bool.and_comm (xs.all fG)]
def lI(r:aI):Bool:=fG r.name&&(pX r.args.l&&(decide (r.body.l.length<=20)&&(r.body.l.all jy&&decide ((varsOf r).length<=12))))
theorem dx{r:aI}(mP:r.ok)(hf:r.k8){h:Heap}{K:Out->Heap->Bool}(hK:K (.ret (.bool (lI r))) h=true) :
  Sem TP 112 [.agg [.str r.name,iz r.args,uE r.body]] h K:=by
 refine Sem.data (r:=.bool (lI r)) ?_ (by have:=fN r;simpa [bY,AV.cP,AV.pure] using this) hK;clear hK;have A3:r.body.l.length<=cw:=mP.2.2.2.1;refine F.HJ ?_;rw [F.JH];have g0:(Heap.alloc Heap.empty (.cells (bY r))).get 0=sC (bY r):=ak _ _;have gn:(Heap.alloc Heap.empty (.cells (bY r))).next=1:=rfl
 have hb:eG (.agg [.str r.name,iz r.args,uE r.body])=some (bY r):=cD (kr r);simp only [hb,dr,aZ];generalize (Heap.alloc Heap.empty (.cells (bY r)))=H at g0 gn ⊢;have fin:∀ (b:Bool) h',b=lI r->tV (.bool (lI r)) (.ret (.bool b)) h'=true:=fun b h' hb=>by rw [hb];exact eB rfl
 generalize tV (.bool (lI r))=R at fin ⊢;simp only [aO,aj g0,bY];refine af (fL ?_);simp only [aO]
 cases hn:fG r.name with
 |false=>simp only [Bool.not_false,aL];exact fin _ _ (by simp [lI,hn])
 |true=>
 simp only [Bool.not_true,aK,aO,aj g0,bY];refine af (eU mP.2.1 ?_);simp only [aO]
 cases UW:pX r.args.l with
 |false=>simp only [Bool.not_false,aL];exact fin _ _ (by simp [lI,UW])
 |true=>
 simp only [Bool.not_true,aK,aO,aj g0,bY];by_cases xL:20<r.body.l.length
 ·simp only [fh (by omega:(20:Int)<(r.body.l.length:Int)),aL];exact fin _ _ (by simp [lI,show ¬ r.body.l.length<=20 by omega])
 simp only [eR (by omega:¬ (20:Int)<(r.body.l.length:Int)),aK];have amn:r.body.l.length<=20:=by omega
 refine aB 0 r.body.l.length (zero_le _) (fun i e h'=>aV H h'/\e 1 = .ptr 0 0/\e 3=I6 (i:Int)/\(r.body.l.take i).all jy=true) ⟨aV.refl _,rfl,rfl,rfl⟩ ?_ ?_
 ·rintro i e h' _ hi ⟨x1,e1,e3,ht⟩ K' uR hx hr hp;obtain ⟨c,hv⟩:=dM hi;have O2:=mP.2.2.2.2 c (ij hv);have q0:=x1.at g0 (by omega);obtain ⟨H2,se,k1,ko,kn⟩:=cA (h:=h') (zs:=[I6 0,bF,.str [],.ai]) (cs:=dZ c) (n:=4) rfl rfl (jP c);have x2:aV H H2:=x1.trans ⟨by omega,fun b hb=>ko b (by omega)⟩;have no:jy c=false->∀ h',R (.ret bF) h'=true:=fun hc h'=>fin _ _ (by simp [lI,all_false hv hc]);rw [F.dx.aP];simp only [e1,e3,aO,reduceAdd,aj q0,bY,aU hi,aQ r.body hi,dB jO hv,se];simp only [aO,aj k1,dZ,cy];by_cases k0:c.kind=0
  ·have hco:jy c=(fG c.name&&pX c.args.l):=by unfold jy;rw [if_pos k0,E5]
   simp only [fh k0,aL];refine af (fL ?_);simp only [aO]
   cases n1:fG c.name with
   |false=>
    simp only [Bool.not_false,aL];rw [hr,F.dx.bg];exact no (by rw [hco,n1];rfl) _
   |true=>
   simp only [Bool.not_true,aK,aO,aj k1,dZ];refine af (eU O2.2.1 ?_);simp only [aO]
   cases n2:pX c.args.l with
   |false=>
    simp only [Bool.not_false,aL];rw [hr,F.dx.bg];exact no (by rw [hco,n2,Bool.and_false]) _
   |true=>
   simp only [Bool.not_true,aK,aE hi A3,dr];exact uR _ _ ⟨x2,e1,rfl,lE hv ht (by rw [hco,n1,n2];rfl)⟩
  simp only [eR k0,aK]
  have J:∀ (e:Env) (b:Bool),e 1 = .ptr 0 0->e 3=I6 (i:Int)->e 4 = .ptr h'.next 0->e 44 = .bool b->(b=true↔(c.kind=1\/c.kind=2))->F.dx.J0 K' (sM e 67 H2)=true:=by
   intro e b e1 e3 e4 e44 hb;rw [F.dx.Cx];simp only [e4,e44,aO,reduceAdd]
   cases b with
   |false=>
    simp only [aK];have:¬ (c.kind=1\/c.kind=2):=fun h=>by have:=hb.2 h;cases this
    rw [hr,F.dx.bg];exact no (by unfold jy;rw [if_neg k0,if_neg this]) _
   |true=>
    have hk:=hb.1 rfl;have Ql:jy c=(decide (c.name = [])&&(decide (c.args.l.length=2)&&c.args.l.all fG)):=by simp only [jy,if_neg k0,if_pos hk]
    simp only [aL,aO,aj k1,dZ,um];by_cases hn:c.name = []
    ·simp only [fh hn,Bool.not_true,aK,cy];by_cases h2:c.args.l.length=2
     ·simp only [fh (by omega:(c.args.l.length:Int)=2),Bool.not_true,aK];refine af (eU O2.2.1 ?_);simp only [aO];have rF:pX c.args.l=c.args.l.all fG:=by unfold pX;rw [fh (by omega:c.args.l.length<=12),Bool.and_true]
      rw [rF]
      cases n2:c.args.l.all fG with
      |false=>
       simp only [Bool.not_false,aL];rw [hr,F.dx.bg];exact no (by rw [Ql,n2,Bool.and_false,Bool.and_false]) _
      |true=>
       simp only [Bool.not_true,aK,e3,aE hi A3,dr];exact uR _ _ ⟨x2,e1,rfl,lE hv ht (by rw [Ql,n2];simp [hn,h2])⟩
     ·simp only [eR (by omega:¬ (c.args.l.length:Int)=2),Bool.not_false,aL];rw [hr,F.dx.bg];exact no (by rw [Ql];simp [h2]) _
    ·simp only [eR hn,Bool.not_false,aL];rw [hr,F.dx.bg];exact no (by rw [Ql];simp [hn]) _
  by_cases k1':c.kind=1
  ·simp only [fh k1',aL];exact J _ true e1 e3 rfl rfl (by simp [k1'])
  ·simp only [eR k1',aK];exact J _ (decide (c.kind=2)) e1 e3 rfl rfl (by simp [k1'])
 ·rintro e h' ⟨x1,e1,e3,ht⟩ K' hx;have q0:=x1.at g0 (by omega);rw [F.dx.aP];simp only [e1,e3,aO,reduceAdd,aj q0,bY,aR];rw [hx,F.dx.aC];simp only [e1,aO,reduceEqDiff,reduceIte,aj q0,bY,si];refine af (bX hf fun x jM=>?_);simp only [aO,jM];rw [jD (dK _)] at ht;refine fin _ _ ?_;unfold lI;rw [hn,UW,fh amn,ht];by_cases J9:(varsOf r).length<=12
  ·rw [fh J9,fh (by omega:((varsOf r).length:Int)<=12)];rfl
  ·rw [eR J9,eR (by omega:¬ ((varsOf r).length:Int)<=12)];rfl
def fq(cs:List fT):List (cc×Int):=(cs.filter fun c=>decide (c.kind=0)).map fun c=>(c.name,(c.args.l.length:Int))
def yU(r:aI):List (cc×Int):=(r.name,(r.args.l.length:Int)) :: fq r.body.l
def cT(rs:List aI):List (cc×Int):=rs.flatMap yU
theorem IC{cs:List fT}{c:fT}(hc:cs[j]?=some c):fq (cs.take (j+1))=fq (cs.take j)++if c.kind=0 then [(c.name,(c.args.l.length:Int))] else []:=by
 unfold fq;rw [take_add_one,hc,toList_some,filter_append,map_append];by_cases h:c.kind=0<;>simp [h]
theorem uH(cs:List fT):(fq cs).length<=cs.length:=by
 unfold fq;rw [length_map];exact length_filter_le _ _
theorem yV:∀ rs:List aI,(∀ r ∈ rs,r.body.l.length<=20)->(cT rs).length<=rs.length*21
 |[],_=>dK _
 |r :: rs,h=>by
  have h1:=yV rs fun q hq=>h q (mem_cons_of_mem _ hq);have h2:=uH r.body.l;have h3:=h r mem_cons_self;show (yU r++cT rs).length<=_;unfold yU;rw [length_append,length_cons,length_cons];omega
theorem dh{rules:Sl aI}(uo:rules.l.length<=60)(xL:∀ r ∈ rules.l,r.body.l.length<=20){h:Heap}{K:Out->Heap->Bool}(hK:∀ x:Sl (cc×Int),x.l=cT rules.l->K (.ret (dR rS 2 x)) h=true) :
  Sem TP 113 [gm rules] h K:=by
 have hbig:rules.l.length<=cw:=by unfold cw;omega
 have hmx:cz=140737488355328:=rfl
 have main:Sem TP 113 [gm rules] Heap.empty (fun o h'=>yes (∃ v,∃ x:Sl (cc×Int),o = .ret v/\x.l=cT rules.l/\Fz true h' v (dR rS 2 x))):=by
  refine F.FB ?_;rw [F.HF];refine aB 0 rules.l.length (zero_le _) (fun i e h'=>∃ a,Own rS 2 0 h' a (cT (rules.l.take i))/\e 0=gm rules/\e 3=a/\e 4=I6 (i:Int)) ⟨.ai,.nil,rfl,rfl,rfl⟩ ?_ ?_
  ·rintro i e h' _ hi ⟨a,o,e0,e3,e4⟩ K' hn hx hr hp;obtain ⟨r,hv⟩:=dM hi;have aiw:=xL r (ij hv);have A3:r.body.l.length<=cw:=by unfold cw;omega
   have ld:∀ j,j<3->∀ h,au none (.dL (rules.l.flatMap bY) (i*3+j)) h=(bY r)[j]?:=fun j hj h=>dU fo hv hj;have ld0:∀ h,au none (.dL (rules.l.flatMap bY) (i*3)) h=some (.str r.name):=fun h=>ld 0 (by omega) h
   have hal:(cT (rules.l.take i)).length<=1260:=by
    have h1:=yV (rules.l.take i) fun q hq=>xL q (mem_of_mem_take hq);have h2:=length_take_le i rules.l;omega
   obtain ⟨a1,h1,p1,p2,p3,p4,p5,p6⟩:=o.push tG (fun x=>rfl) (zero_le _) (bytes:=24) (by omega) (r.name,(r.args.l.length:Int));rw [F.dh.aP];simp only [e0,e3,e4,aO,aU hi,aQ rules hi,ld0,ld 1 (by omega),bY,W6,W7,p1]
   refine aB 0 r.body.l.length (zero_le _) (fun j e h2=>∃ a,Own rS 2 0 h2 a (cT (rules.l.take i)++(r.name,(r.args.l.length:Int)) :: fq (r.body.l.take j))/\e 0=gm rules/\e 3=a/\e 4=I6 (i:Int)/\e 5=I6 (j:Int))
    ⟨a1,by simpa [fq] using p2,e0,rfl,e4,rfl⟩ ?_ ?_
   ·rintro j e h2 _ hj ⟨a,o,e0,e3,e4,e5⟩ K2 qj fK r7 Ay;obtain ⟨c,hc⟩:=dM hj;obtain ⟨H2,se,k1,ko,kn⟩:=cA (h:=h2) (zs:=[I6 0,bF,.str [],.ai]) (cs:=dZ c) (n:=4) rfl rfl (jP c);have x2:aV h2 H2:=⟨by omega,fun b hb=>ko b (by omega)⟩
    have jL:=IC hc;rw [F.dh.cU];simp only [e0,e3,e4,e5,aO,reduceAdd,aQ rules hi,ld 2 (by omega),bY,aU hj,aQ r.body hj,dB jO hc,se];simp only [aO,aj k1,dZ,cy];by_cases k0:c.kind=0
    ·rw [if_pos k0] at jL
     have hcl:(fq (r.body.l.take j)).length<=20:=by
      have h1:=uH (r.body.l.take j);have h2:=length_take_le' j r.body.l;omega
     obtain ⟨a2,h3,s1,s2,s3,s4,s5,s6⟩:=(o.ext x2).push tG (fun x=>rfl) (zero_le _) (bytes:=24) (by rw [length_append,length_cons];omega) (c.name,(c.args.l.length:Int));simp only [fh k0,aL,aO,W6,W7,s1,aE hj A3];refine qj _ _ ⟨a2,?_,e0,rfl,e4,rfl⟩;rw [jL];simpa using s2
    ·rw [if_neg k0,append_nil] at jL;simp only [eR k0,aK,aE hj A3,dr];exact qj _ _ ⟨a,by rw [jL];exact o.ext x2,e0,e3,e4,rfl⟩
   ·rintro e h2 ⟨a,o,e0,e3,e4,e5⟩ K2 fK;rw [F.dh.cU];simp only [e0,e4,e5,aO,reduceAdd,aQ rules hi,ld 2 (by omega),bY,aR];rw [fK,F.dh.cm];simp only [e4,aO,reduceEqDiff,reduceIte,aE hi hbig];refine hn _ _ ⟨a,?_,e0,e3,rfl⟩;rw [jD (dK _)] at o
    have:cT (rules.l.take (i+1))=cT (rules.l.take i)++(r.name,(r.args.l.length:Int)) :: fq r.body.l:=by
     unfold cT;rw [take_add_one,hv];simp [yU]
    rw [this];exact o
  ·rintro e h' ⟨a,o,e0,e3,e4⟩ K' hx;rw [F.dh.aP];simp only [e0,e4,aO,aR];rw [hx,F.dh.aC];rw [jD (dK _)] at o;simp only [kC,reduceEqDiff,reduceIte,e3]
   obtain ⟨x,jM,fK⟩:=o.J7 (fun v y hy=>by
    simp only [rS,mem_cons,not_mem_nil,_root_.or_false] at hy
    rcases hy with rfl|rfl<;>exact .scalar _ rfl)
   exact bO.2 ⟨a,x,rfl,jM,fK⟩
 refine main.frozen (by simp [AV.cP,br fN]) fun o h' ho=>?_;obtain ⟨v,x,rfl,hx,hf⟩:=bO.1 ho;exact ⟨v,_,rfl,hf,hK x hx⟩
theorem E6{f:St->(AX->St->Bool)->Bool}{K:AX->St->Bool}{e0:Env}{h0:Heap}(I:Nat->Env->Heap->Prop)(m:Nat)(hI:I m e0 h0)
  (step:∀ m e h,I m e h->∀ K':AX->St->Bool,(∀ m' e' h',m'<m->I m' e' h'->K' .normal ⟨e',n,defs,h'⟩=true)->(∀ id s,K' (.exit id) s=K (.exit id) s)->(∀ s,K' .ret s=K .ret s)->f ⟨e,n,defs,h⟩ K'=true):bJ f ⟨e0,n,defs,h0⟩ K=true:=
 jU I m hI fun m e h hi=>step m e h hi _ (fun m' e' h' hlt Ae=>vN (I:=I) m' hlt Ae) (fun _ _=>rfl) (fun _=>rfl)
theorem BG:∀ (l:List cc) (s:cc),(gv l s).length<=l.length+1
 |[],s=>dK _
 |x :: l,s=>by
  have:=BG l s;rw [gv];split
  ·rw [length_cons,length_cons];omega
  ·split
   ·omega
   ·simp
def cZ(rs:List aI):List cc:=rs.foldl (fun o r=>gv o r.name) []
theorem UX{rs:List aI}{i:Nat}{r:aI}(hr:rs[i]?=some r):cZ (rs.take (i+1))=gv (cZ (rs.take i)) r.name:=by
 unfold cZ;rw [take_add_one,hr];simp
theorem rU:∀ (rs:List aI) (o:List cc),(rs.foldl (fun o r=>gv o r.name) o).length<=o.length+rs.length
 |[],o=>dK _
 |r :: rs,o=>by
  have h1:=rU rs (gv o r.name);have h2:=BG o r.name;rw [foldl_cons,length_cons];omega
theorem pZ(rs:List aI):(cZ rs).length<=rs.length:=by
 have:=rU rs [];simpa [cZ] using this
theorem tM:∀ (rs:List aI) (o:List cc),wT o->wT (rs.foldl (fun o r=>gv o r.name) o)
 |[],o,h=>h
 |r :: rs,o,h=>tM rs _ (A0 h r.name)
theorem rG(rs:List aI):wT (cZ rs):=tM rs [] List.Pairwise.nil
theorem wV{s:cc}:∀ (rs:List aI) (o:List cc),s ∈ rs.foldl (fun o r=>gv o r.name) o↔s ∈ o\/s ∈ bC rs
 |[],o=>by simp [bC]
 |r :: rs,o=>by
  rw [foldl_cons,wV rs,wj];simp [bC,_root_.or_assoc]
theorem ej(rs:List aI):s ∈ cZ rs↔s ∈ bC rs:=by
 have:=wV (s:=s) rs [];simpa [cZ] using this
theorem yW{l:List cc}(h:wT l):l.Nodup:=by
 unfold wT at h;unfold List.Nodup;exact h.imp fun {a b} rO e=>by subst e;rw [sJ] at rO;cases rO
theorem dS{rules:Sl aI}(uo:rules.l.length<=60){h:Heap}{K:Out->Heap->Bool}(hK:∀ x:Sl cc,x.l=cZ rules.l->K (.ret (iz x)) h=true) :
  Sem TP 35 [gm rules] h K:=by
 have hbig:rules.l.length<=cw:=by unfold cw;omega
 have main:Sem TP 35 [gm rules] Heap.empty (fun o h'=>yes (∃ v,∃ x:Sl cc,o = .ret v/\x.l=cZ rules.l/\Fz true h' v (iz x))):=by
  refine F.Cw ?_;rw [F.DE];refine aB 0 rules.l.length (zero_le _) (fun i e h'=>∃ a,Own encS 1 0 h' a (cZ (rules.l.take i))/\e 0=gm rules/\e 3=a/\e 4=I6 (i:Int)) ⟨.ai,.nil,rfl,rfl,rfl⟩ ?_ ?_
  ·rintro i e h' _ hi ⟨a,o,e0,e3,e4⟩ K' hn hx hr hp;obtain ⟨r,hv⟩:=dM hi;have ld:∀ h,au none (.dL (rules.l.flatMap bY) (i*3)) h=some (.str r.name):=fun h=>dU fo hv (by omega:0<3);have jL:=UX hv;rw [F.dS.aP];simp only [e0,e3,e4,aO,aU hi,aQ rules hi,ld];refine af (fP o (zero_le _) (by have h1:=pZ (rules.l.take i);have h2:=length_take_le i rules.l;omega) fun a1 h1 x1 o1=>?_);simp only [aO,aE hi hbig];exact hn _ _ ⟨a1,by rw [jL];exact o1,e0,rfl,rfl⟩
  ·rintro e h' ⟨a,o,e0,e3,e4⟩ K' hx;rw [F.dS.aP];simp only [e0,e4,aO,aR];rw [hx,F.dS.aC];rw [jD (dK _)] at o;simp only [kC,reduceEqDiff,reduceIte,e3]
   obtain ⟨x,jM,fK⟩:=o.J7 (fun v y hy=>by
    simp only [encS,mem_cons,not_mem_nil,_root_.or_false] at hy
    subst hy;exact .scalar _ rfl)
   exact bO.2 ⟨a,x,rfl,jM,fK⟩
 refine main.frozen (by simp [AV.cP,br fN]) fun o h' ho=>?_;obtain ⟨v,x,rfl,hx,hf⟩:=bO.1 ho;exact ⟨v,_,rfl,hf,hK x hx⟩
theorem eT{x:Sl cc}{s:cc}(hx:x.l.length<=cw){h:Heap}{K:Out->Heap->Bool}(DY:∀ i:Nat,x.l[i]?=some s->K (.ret (I6 (i:Int))) h=true)(uI:s ∉ x.l->K (.ret (I6 (-1))) h=true):Sem TP 128 [iz x,.str s] h K:=by
 refine F.FA ?_;rw [F.HA];refine aB 0 x.l.length (zero_le _) (fun i e h'=>h'=h/\e 0=iz x/\e 1 = .str s/\e 5=I6 (i:Int)/\s ∉ x.l.take i) ⟨rfl,rfl,rfl,rfl,by simp⟩ ?_ ?_
 ·rintro i e h' _ hi ⟨rfl,e0,e1,e5,ht⟩ K' hn gl hr hp;obtain ⟨t,hv⟩:=dM hi;rw [F.eT.aP];simp only [e0,e1,e5,aO,aU hi,aQ x hi,jX hv,um];by_cases hq:t=s
  ·subst hq;simp only [decide_true,aL];rw [hr,F.eT.bg];exact DY i hv
  ·simp only [eR hq,aK,aE hi hx,dr];refine hn _ _ ⟨rfl,e0,e1,rfl,?_⟩;rw [take_add_one,hv];simp only [toList_some,mem_append,mem_singleton];exact fun h=>h.elim ht fun h=>hq h.symm
 ·rintro e h' ⟨rfl,e0,e1,e5,ht⟩ K' gl;rw [F.eT.aP];simp only [e0,e5,aO,aR];rw [gl,F.eT.aC];rw [jD (dK _)] at ht;exact uI ht
structure Xs (S n:Nat) (D0:DB) (ps:List CS) (ng:FuncId) (na nb:List AV):Prop where
 n1:1<=n
 sK:n<=64
 aiJ:∀ p ∈ ps,p.ok
 rows:∀ nm p,D0 nm=some p->p.1≠S
 ask:∀ p ∈ ps,∀ D,fV D D0->CQ n D p.r
 head:∀ p ∈ ps,n ^ p.r.args.l.length<=4096/\p.r.args.l.length<=12/\∃ q,D0 p.r.name=some q/\q.2.length=n ^ p.r.args.l.length
 note:∀ (i:Int) (r:aI) (k:Int) (hd:Sl Int) (cs:Sl (Sl Int)) (ls:Sl Int) (y:AV) (h:Heap) (K:Out->Heap->Bool),(∀ h',aV h h'->K (.ret (.tuple [])) h'=true)->Sem TP ng (na++([.agg (bZ i r k (dH hd) (kM cs) (dH ls)),y]++nb)) h K
theorem O3{lo k0:Nat}{D0:DB}{ps:List CS}{a1:AV}(o:Xs S n D0 ps ng na nb)(hS:h.get S=sC [I6 (n:Int),.map B])(Xe:S<h.next)(hD:ei D0 h B lo)
  (uN:Own yT 8 k0 h a1 ps) (hpb:∀ b,bR a1=some b->∀ nm p,D0 nm=some p->b≠p.1) (sF:ps.length<=60)
  (hK:∀ h' D',Reach n (ps.map (·.r)) D0 D'->pY n (ps.map (·.r)) (D',false)=(D',false)->fV D' D0->ei D' h' B lo->(∀ b,b<h.next->(∀ nm p,D0 nm=some p->b≠p.1)->h'.get b=h.get b)->h.next<=h'.next->K (.ret (.tuple [])) h'=true) :
  Sem TP 103 [.ptr S 0,a1,.func ng na nb] h K:=by
 have hbig:ps.length<=cw:=by unfold cw;omega
 have BW:∀ nm p,D0 nm=some p->p.1<h.next:=fun nm p hp=>(hD.nO nm p hp).2.1
 have hBn:=hD.lt;have hBr:∀ nm p,D0 nm=some p->B≠p.1:=fun nm p hp=>Ne.symm (hD.nO nm p hp).2.2.1;refine F.xp ?_;rw [F.yt];simp only [pM (x:=.ptr S 0) rfl,pM (x:=.func ng na nb) rfl,dr,Heap.aD]
 have g3:((h.alloc (.cells [.ptr S 0])).alloc (.cells [.func ng na nb])).get h.next=sC [.ptr S 0]:=by
  rw [Heap.aN,Heap.aD,if_neg (by omega)];exact ak _ _
 have g5:((h.alloc (.cells [.ptr S 0])).alloc (.cells [.func ng na nb])).get (h.next+1)=sC [.func ng na nb]:=ak _ _;have gx:aV h ((h.alloc (.cells [.ptr S 0])).alloc (.cells [.func ng na nb])):=(aV.alloc _ _).trans (aV.alloc _ _);have gn:((h.alloc (.cells [.ptr S 0])).alloc (.cells [.func ng na nb])).next=h.next+1+1:=rfl
 generalize ((h.alloc (.cells [.ptr S 0])).alloc (.cells [.func ng na nb]))=H2 at g3 g5 gx gn ⊢;obtain ⟨H3,s6,a6,o6,n6⟩:=oM (h:=H2) (z:=bF) (v:=bT) rfl rfl;rw [gn] at s6 a6;simp only [s6,dr];have x3:aV h H3:=gx.trans ⟨by omega,fun b hb=>o6 b (by omega)⟩
 refine E6 (fun m e h'=>∃ (D:DB) (more:Bool) (P6:Nat),e 1=a1/\e 3 = .ptr h.next 0/\e 5 = .ptr (h.next+1) 0/\e 6 = .ptr P6 0/\h'.get P6=sC [.bool more]/\h.next+1<P6/\P6<h'.next/\h'.get h.next=sC [.ptr S 0]/\h'.get (h.next+1)=sC [.func ng na nb] /\
  Reach n (ps.map (·.r)) D0 D/\fV D D0/\ei D h' B lo/\(∀ b,b<h.next->(∀ nm p,D0 nm=some p->b≠p.1)->h'.get b=h.get b)/\h.next<=h'.next /\
  ((more=true/\m=IB (ps.map (·.r.name)) D+1)\/(more=false/\m=0/\pY n (ps.map (·.r)) (D,false)=(D,false)))) _
  ⟨D0,true,h.next+1+1,rfl,rfl,rfl,rfl,a6,by omega,by omega,by rw [o6 _ (by omega)];exact g3,by rw [o6 _ (by omega)];exact g5,.refl,fun _=>rfl,hD.ext x3,fun b hb _=>x3.get b hb,x3.next,.inl ⟨rfl,rfl⟩⟩ ?_
 rintro m e h' ⟨D,more,P6,e1,e3,e5,e6,q6,q6l,q6n,q3,q5,hre,BH,oO,hfr,mS,Wq⟩ K0 hN0 hx0 hr0;rw [F.cB.aP];simp only [e6,aO,aj q6];rcases Wq with ⟨hm1,hm⟩|⟨hm1,hm,ID⟩
 ·subst hm1;have st:aS 1 (.ptr P6 0) bF h'=some (h'.set P6 (.cells [bF])):=by rw [cj (n:=1) q6 rfl rfl (by simp)];rfl
  have aiL:∀ h,bK .slice a1 h=some (I6 (ps.length:Int)):=fun h=>uN.len;simp only [aL,st,aO,e1,aiL];have f0:∀ b,b≠P6->(h'.set P6 (.cells [bF])).get b=h'.get b:=fun b hb=>by rw [Heap.aG,if_neg hb]
  have f6:(h'.set P6 (.cells [bF])).get P6=sC [bF]:=by rw [Heap.aG,if_pos rfl]
  have fn:(h'.set P6 (.cells [bF])).next=h'.next:=Heap.aT _ _ _
  have fD:ei D (h'.set P6 (.cells [bF])) B lo:=by
   obtain ⟨es,ck,mm,z1,z2,z3⟩:=oO.ex;refine ⟨⟨es,ck,mm,by rw [f0 _ (by omega)];exact z1,z2,z3⟩,fun nm p hp=>?_,oO.inj,by rw [fn];exact oO.lt⟩;obtain ⟨c1,c2,c3,c4⟩:=oO.nO nm p hp;obtain ⟨p0,d1,d2,_⟩:=BH.back hp;have:=BW nm p0 d1;exact ⟨c1,by rw [fn];exact c2,c3,by rw [f0 _ (by omega)];exact c4⟩
  refine aB 0 ps.length (zero_le _) (fun i e h2=>∃ s:DB×Bool,s=pY n ((ps.map (·.r)).take i) (D,false)/\O0 (ps.map (·.r.name)) D0 D s/\ei s.1 h2 B lo/\h2.get P6=sC [.bool s.2]/\h2.get h.next=sC [.ptr S 0]/\h2.get (h.next+1)=sC [.func ng na nb] /\
   (∀ b,b<h.next->(∀ nm p,D0 nm=some p->b≠p.1)->h2.get b=h.get b)/\h'.next<=h2.next/\e 1=a1/\e 3 = .ptr h.next 0/\e 5 = .ptr (h.next+1) 0/\e 6 = .ptr P6 0/\e 10=a1/\e 11=I6 (ps.length:Int)/\e 12=I6 (i:Int))
   ⟨(D,false),rfl,⟨BH,dK _,fun h=>(by cases h),fun _=>rfl⟩,fD,f6,by rw [f0 _ (by omega)];exact q3,by rw [f0 _ (by omega)];exact q5,fun b hb hb2=>by rw [f0 _ (by omega)];exact hfr b hb hb2,by omega,e1,e3,e5,e6,rfl,rfl,rfl⟩ ?_ ?_
  ·rintro i e h2 _ hi ⟨s,hs,hq,w1,w6,w3,w5,wf,wn,e1,e3,e5,e6,iJ,l9,uq⟩ K1 Tw jM Wm YJ;obtain ⟨p,hv⟩:=dM hi;have Jo:=ij hv;have pok:=o.aiJ p Jo
   have amq:Own yT 8 k0 h2 a1 ps:=by
    cases uN with
    |nil=>exact .nil
    |row b l z1 z2 z3=>exact .row b _ z1 (by omega) (by rw [wf b z2 (hpb b rfl)];exact z3)
   obtain ⟨b,_,_,i1,i2,_⟩:=amq.get KY hv;obtain ⟨H,jL,hL,ho,hn⟩:=cA (h:=h2) (zs:=[I6 0,.str [],.ai,.ai,I6 0,.ai,.ai,.ai]) (cs:=yT p) (n:=8) rfl rfl (KZ p);have xH:aV h2 H:=⟨by omega,fun b hb=>ho b (by omega)⟩
   have hL':=hL;simp only [yT,bZ] at hL';have hSH:H.get S=sC [I6 (n:Int),.map B]:=by rw [xH.get S (by omega),wf S Xe (fun nm p hp=>Ne.symm (o.rows nm p hp))];exact hS
   rw [F.cB.cU];simp only [iJ,l9,uq,aO,aU hi,i1,i2,jL,e3];simp only [aj (show H.get h.next=sC [.ptr S 0] by rw [xH.get _ (by omega)];exact w3),aj hL',Tt,aO,e5,e6]
   have so:Tv S B n lo H.next h.next (h.next+1) P6 h2.next D0 p.r (varsOf p.r).length p.hd ng na nb:=
    ⟨o.n1,o.sK,⟨by omega,by omega,by omega,by omega,by omega,by omega⟩,fun nm q hq=>by have:=BW nm q hq;exact ⟨by omega,o.rows nm q hq,by omega,by omega,by omega,by omega⟩,⟨by omega,by omega,by omega,by omega,by omega⟩,o.ask p Jo,o.head p Jo,rfl,pok.hd,o.note⟩
   have sa:tL S B n lo H.next h.next (h.next+1) P6 h2.next D0 p.r p.i (varsOf p.r).length p.hd p.cs p.ls ng na nb H s H:=
    ⟨hSH,w1.ext xH,hq.UU,xH.at w3 (by omega),xH.at w5 (by omega),xH.at w6 (by omega),hL,dK _,fun _ _ _ _=>rfl⟩
   refine af (Iz (RI so) pok.k8 rfl pok.Kc pok.cs pok.ls sa (dK _) fun h5 b5 f5 n5=>?_);simp only [aO,aE hi hbig];have VW:(ps.map (·.r))[i]?=some p.r:=by rw [getElem?_map,hv];rfl
   refine Tw _ _ ⟨nY n p.r s,by rw [RJ VW,<- hs],O1 o.n1 (List.mem_map_of_mem (f:=fun q:CS=>q.r.name) Jo) (o.head p Jo).2.2 hq,b5.hD,b5.h6,b5.h3,b5.h5,fun b b1 b2=>?_,by omega,e1,e3,e5,e6,iJ,l9,rfl⟩;rw [b5.jm b (by omega) (by omega) b2,xH.get b (by omega),wf b b1 b2]
  ·rintro e h2 ⟨s,hs,hq,w1,w6,w3,w5,wf,wn,e1,e3,e5,e6,iJ,l9,uq⟩ K1 jM;rw [jD (by simp)] at hs;obtain ⟨H,jL,hL,ho,hn⟩:=oM (h:=h2) (z:=bF) (v:=.bool s.2) rfl rfl;have xH:aV h2 H:=⟨by omega,fun b hb=>ho b (by omega)⟩
   rw [F.cB.cU];simp only [l9,uq,aO,aR];rw [jM,F.cB.cm];simp only [e6,aO,reduceEqDiff,reduceIte,aj w6,jL];have amr:Reach n (ps.map (·.r)) D0 s.1:=by rw [hs];exact .step D hre
   have com:∀ (m':Nat) (e':Env),e' 1=a1->e' 3 = .ptr h.next 0->e' 5 = .ptr (h.next+1) 0->e' 6 = .ptr h2.next 0->m'<m->((s.2=true/\m'=IB (ps.map (·.r.name)) s.1+1)\/(s.2=false/\m'=0/\pY n (ps.map (·.r)) (s.1,false)=(s.1,false)))->K0 .normal (sM e' 22 H)=true:=fun m' e' e1 e3 e5 e6 zI hc=>
    hN0 m' _ _ zI ⟨s.1,s.2,h2.next,e1,e3,e5,e6,hL,by omega,by omega,xH.at w3 (by omega),xH.at w5 (by omega),amr,hq.UU,w1.ext xH,fun b b1 b2=>by rw [xH.get b (by omega)];exact wf b b1 b2,by omega,hc⟩
   cases se:s.2 with
   |true=>
    have:=hq.lt se;exact com (IB (ps.map (·.r.name)) s.1+1) _ e1 e3 e5 rfl (by omega) (.inl ⟨se,rfl⟩)
   |false=>
    have h1:=hq.same se;exact com 0 _ e1 e3 e5 rfl (by omega) (.inr ⟨se,rfl,by rw [h1,<- hs,<- h1,<- se]⟩)
 ·subst hm1;simp only [aK];rw [hx0,F.cB.aC];exact hK h' D hre ID BH oO hfr mS
def Rel.ok(r:Rel):Prop:=r.name.length<=cw/\r.aM.l.length<=cw/\∀ t ∈ r.aM.l,t.l.length<=cw
def ct.ok(s:ct):Prop:=s.aA.l.length<=cw/\∀ r ∈ s.aA.l,r.ok
theorem O4(hn:(es.map (·.2.2)).Nodup){e:Entry}(he:e ∈ es):oS e.2.2 es=some e:=by
 induction es with
 |nil=>cases he
 |cons a es ih=>
  rw [map_cons,nodup_cons] at hn;rw [oS];by_cases h:a.2.2=e.2.2
  ·rw [if_pos h];rw [mem_cons] at he;rcases he with rfl|he
   ·rfl
   ·exact absurd (by rw [h];exact List.mem_map_of_mem he) hn.1
  ·rw [if_neg h];rw [mem_cons] at he;rcases he with rfl|he
   ·exact absurd rfl h
   ·exact ih hn.2 he
theorem IE{defs:List uV}{K:R->Bool}:∀ {ps:List (AV×Heap)},(∀ p ∈ ps,K (.ok p.1 defs p.2)=true)->pI defs K ps=true
 |[],_=>rfl
 |p :: ps,h=>by
  rw [pI,h p mem_cons_self,Bool.true_and];exact IE fun q hq=>h q (mem_cons_of_mem _ hq)
theorem IF{r m:Nat}{seen:List Nat}{K:R->Bool}(hr:h.get r=some (.iT (some m) ck seen ck))(hm:h.get m=some (.map es ck))(hB:ni es ck)(kW:r≠m)
  (aiN:(∀ e ∈ es,e.2.2 ∈ seen)->K (.ok (.tuple [bF]) defs h)=true)
  (gw:∀ e ∈ es,e.2.2 ∉ seen->xS (.ptr r 0) (h.set r (.iT (some m) ck (seen++[e.2.2]) ck))=some (.tuple [e.1,e.2.1])->K (.ok (.tuple [bT,e.1,e.2.1]) defs (h.set r (.iT (some m) ck (seen++[e.2.2]) ck)))=true) :
  aa (B3 false (.ptr r 0) h) (pI defs K)=true:=by
 have hc:∀ o ∈ xR es ck seen,(o=none/\∀ e ∈ es,e.2.2 ∈ seen)\/∃ e,o=some e/\e ∈ es/\e.2.2 ∉ seen:=by
  intro o ho;unfold xR at ho;simp only [mem_append,mem_map] at ho;rcases ho with ho|⟨e,he,rfl⟩
  ·split at ho
   ·rename_i hem;simp only [mem_singleton] at ho;refine .inl ⟨ho,fun e he=>?_⟩;rw [isEmpty_iff,filter_eq_nil_iff] at hem;have hlt:=hB.lt e he;by_cases hs:e.2.2 ∈ seen
    ·exact hs
    ·exact absurd (fh hlt) (hem e (by rw [mem_filter];exact ⟨he,by simpa using hs⟩))
   ·cases ho
  ·refine .inr ⟨e,rfl,?_⟩
   have:e ∈ es.filter fun e=>!seen.contains e.2.2:=by
    rcases he with he|he
    ·exact (mem_filter.1 he).1
    ·exact (mem_filter.1 he).1
   rw [mem_filter] at this;exact ⟨this.1,by simpa using this.2⟩
 have hne:xR es ck seen≠[]:=by
  unfold xR;intro he;simp only [append_eq_nil_iff,map_eq_nil_iff] at he;obtain ⟨h1,h2,_⟩:=he;rw [h2] at h1;simp at h1
 have ams:(!seen.isEmpty&&!es.isEmpty&&es.all (fun e=>decide (e.2.2>=ck)))=false:=by
  cases es with
  |nil=>simp
  |cons e es=>
   have:=hB.lt e mem_cons_self;rw [all_cons,eR (by omega),Bool.false_and,Bool.and_false]
 unfold B3;simp only [hr,hm,ams,false_eq_true,if_false]
 cases hcs:xR es ck seen with
 |nil=>exact absurd hcs hne
 |cons c cs=>
  rw [hcs] at hc;simp only [dr];refine IE fun p hp=>?_;rw [mem_map] at hp;obtain ⟨o,ho,rfl⟩:=hp;rcases hc o ho with ⟨rfl,jS⟩|⟨e,rfl,he,hs⟩
  ·exact aiN jS
  ·refine gw e he hs ?_;unfold xS;simp only [Heap.aG,if_true,if_neg (Ne.symm kW),hm,getLast?_concat,O4 hB.nodup he]
theorem nB.aaI:∀ {es:List Entry} {m:gq},nB es m->∀ p ∈ m,∃ e ∈ es,e.1 = .str p.1/\e.2.1=I6 p.2
 |_,[],_,p,hp=>by cases hp
 |[],q :: m,h,_,_=>h.elim
 |e0 :: es,q :: m,⟨h1,h2,h3⟩,p,hp=>by
  rcases mem_cons.1 hp with rfl|hp
  ·exact ⟨e0,mem_cons_self,h1,h2⟩
  ·obtain ⟨e,he,r⟩:=nB.aaI h3 p hp;exact ⟨e,mem_cons_of_mem _ he,r⟩
def IG(es:List Entry)(seen:List Nat):Nat:=(es.filter fun e=>!seen.contains e.2.2).length
theorem Xt{seen:List Nat}{e:Entry}(he:e ∈ es)(hs:e.2.2 ∉ seen):IG es (seen++[e.2.2])<IG es seen:=by
 have h1:(es.filter fun a=>!(seen++[e.2.2]).contains a.2.2)=(es.filter fun a=>!seen.contains a.2.2).filter fun a=>!(a.2.2==e.2.2):=by
  rw [List.filter_filter];refine filter_congr fun a _=>?_;rw [Bool.eq_iff_iff];simp;exact And.comm
 unfold IG;rw [h1];refine length_filter_lt_length_iff_exists.2 ⟨e,mem_filter.2 ⟨he,by simpa using hs⟩,by simp⟩
theorem DZ{f:St->(AX->St->Bool)->Bool}{K:AX->St->Bool}{e0:Env}{h0:Heap}(es:List Entry)(J:List Nat->Env->Heap->Prop)(hJ:J [] e0 h0)
  (step:∀ seen e h,J seen e h->∀ K':AX->St->Bool,(∀ en ∈ es,en.2.2 ∉ seen->∀ e' h',J (seen++[en.2.2]) e' h'->K' .normal ⟨e',n,defs,h'⟩=true)->(∀ id s,K' (.exit id) s=K (.exit id) s)->(∀ s,K' .ret s=K .ret s)->(∀ v s,K' (.panic v) s=K (.panic v) s)->f ⟨e,n,defs,h⟩ K'=true) :
  bJ f ⟨e0,n,defs,h0⟩ K=true:=by
 refine jU (fun m e h=>∃ seen,m=IG es seen/\J seen e h) (IG es []) ⟨[],rfl,hJ⟩ fun m e h hi=>?_;obtain ⟨seen,rfl,hj⟩:=hi;exact step seen e h hj _ (fun en uO hs e' h' Mc=>vN (I:=fun m e h=>∃ seen,m=IG es seen/\J seen e h) (IG es (seen++[en.2.2])) (Xt uO hs) ⟨_,rfl,Mc⟩) (fun _ _=>rfl) (fun _=>rfl) (fun _ _=>rfl)
end
end Go.AM